/-
  The types of this seat's program, as the evaluator reads them. Printed by a small program.
-/
import Derived.Test.YtdnkeeedcnjofaaGreatDoorProg
import Derived.KernelRfl
import Derived.Shelf.LaysM
import Derived.Shelf.LaysC
import Derived.Shelf.Strconv.Itoa4
import Derived.Shelf.Strconv.ParseIntPublic10
import Derived.Shelf.Strings.Cut
import Derived.Shelf.Strings.Split
import Derived.Lib.AppendIntMem
import Derived.Lib.SmallJoins
import Derived.MapKept
import Derived.WalkKit
import Derived.WalkSpells
import Derived.WalkLawsBesides
import Derived.ProofKit
import Derived.OpenShut
import Derived.ChangeOld
import Derived.SizedLaws
import Derived.Lib.Hide
import Derived.Deep.Slices
import Derived.Test.YtdnkeeedcnjofaaGreatDoorRows
import Derived.Laws.Rows
import Derived.StillTailTactics
import Derived.Laws.CopyOwn
import Derived.Shelf.Small.Bits
import Derived.Shelf.Strconv.Itoa0
import Derived.Shelf.Bits.Mul64
import Derived.Laws.Externs
import Derived.Shelf.Spec.BitsCarry
import Derived.BigQuiet
import Derived.Deep.QuietTactic
import Derived.Deep.RegionHeld3
import Derived.Test.YtdnkeeedcnjofaaGreatDoorM2
set_option linter.unusedVariables false
set_option maxRecDepth 10000
namespace Go.Proofs.YtdnkeeedcnjofaaGreatDoor.Sx
open Go
noncomputable def tys : Tys := [(0, Tryz.t0, Tryz.t0.desc),
  (1, Tryz.t1, Tryz.t1.desc),
  (2, Tryz.t2, Tryz.t2.desc),
  (3, Tryz.t3, Tryz.t3.desc),
  (4, Tryz.t4, Tryz.t4.desc),
  (5, Tryz.t5, Tryz.t5.desc),
  (6, Tryz.t6, Tryz.t5.desc),
  (7, Tryz.t7, Tryz.t7.desc),
  (8, Tryz.t8, Tryz.t7.desc),
  (9, Tryz.t9, Tryz.t9.desc),
  (10, Tryz.t10, Tryz.t9.desc),
  (11, Tryz.t11, Tryz.t9.desc),
  (12, Tryz.t12, Tryz.t12.desc),
  (13, Tryz.t13, Tryz.t13.desc),
  (14, Tryz.t14, Tryz.t13.desc),
  (15, Tryz.t15, Tryz.t15.desc),
  (16, Tryz.t16, Tryz.t16.desc),
  (17, Tryz.t17, Tryz.t17.desc),
  (18, Tryz.t18, Tryz.t18.desc),
  (19, Tryz.t19, Tryz.t18.desc),
  (20, Tryz.t20, Tryz.t20.desc),
  (21, Tryz.t21, Tryz.t21.desc),
  (22, Tryz.t22, Tryz.t22.desc),
  (23, Tryz.t23, Tryz.t22.desc),
  (24, Tryz.t24, Tryz.t24.desc),
  (25, Tryz.t25, Tryz.t24.desc),
  (26, Tryz.t26, Tryz.t26.desc),
  (27, Tryz.t27, Tryz.t26.desc),
  (28, Tryz.t28, Tryz.t28.desc),
  (29, Tryz.t29, Tryz.t29.desc),
  (30, Tryz.t30, Tryz.t30.desc),
  (31, Tryz.t31, Tryz.t31.desc),
  (32, Tryz.t32, Tryz.t32.desc),
  (33, Tryz.t33, Tryz.t3.desc),
  (34, Tryz.t34, Tryz.t34.desc),
  (35, Tryz.t35, Tryz.t35.desc),
  (36, Tryz.t36, Tryz.t36.desc),
  (37, Tryz.t37, Tryz.t37.desc),
  (38, Tryz.t38, Tryz.t38.desc),
  (39, Tryz.t39, Tryz.t39.desc),
  (40, Tryz.t40, Tryz.t40.desc),
  (41, Tryz.t41, Tryz.t41.desc),
  (42, Tryz.t42, Tryz.t42.desc),
  (43, Tryz.t43, Tryz.t43.desc),
  (44, Tryz.t44, Tryz.t44.desc),
  (45, Tryz.t45, Tryz.t45.desc),
  (46, Tryz.t46, Tryz.t46.desc),
  (47, Tryz.t47, Tryz.t47.desc),
  (48, Tryz.t48, Tryz.t48.desc),
  (49, Tryz.t49, Tryz.t49.desc),
  (50, Tryz.t50, Tryz.t50.desc),
  (51, Tryz.t51, Tryz.t51.desc),
  (52, Tryz.t52, Tryz.t52.desc),
  (53, Tryz.t53, Tryz.t53.desc),
  (54, Tryz.t54, Tryz.t54.desc),
  (55, Tryz.t55, Tryz.t54.desc),
  (56, Tryz.t56, Tryz.t56.desc),
  (57, Tryz.t57, Tryz.t57.desc),
  (58, Tryz.t58, Tryz.t58.desc),
  (59, Tryz.t59, Tryz.t59.desc),
  (60, Tryz.t60, Tryz.t60.desc),
  (61, Tryz.t61, Tryz.t60.desc),
  (62, Tryz.t62, Tryz.t62.desc),
  (63, Tryz.t63, Tryz.t62.desc),
  (64, Tryz.t64, Tryz.t64.desc),
  (65, Tryz.t65, Tryz.t65.desc),
  (66, Tryz.t66, Tryz.t66.desc),
  (67, Tryz.t67, Tryz.t67.desc),
  (68, Tryz.t68, Tryz.t68.desc),
  (69, Tryz.t69, Tryz.t68.desc),
  (70, Tryz.t70, Tryz.t70.desc),
  (71, Tryz.t71, Tryz.t71.desc),
  (72, Tryz.t72, Tryz.t72.desc),
  (73, Tryz.t73, Tryz.t73.desc),
  (74, Tryz.t74, Tryz.t74.desc),
  (75, Tryz.t75, Tryz.t75.desc),
  (76, Tryz.t76, Tryz.t76.desc),
  (77, Tryz.t77, Tryz.t77.desc),
  (78, Tryz.t78, Tryz.t78.desc),
  (79, Tryz.t79, Tryz.t79.desc),
  (80, Tryz.t80, Tryz.t80.desc),
  (81, Tryz.t81, Tryz.t81.desc),
  (82, Tryz.t82, Tryz.t82.desc),
  (83, Tryz.t83, Tryz.t83.desc),
  (84, Tryz.t84, Tryz.t84.desc),
  (85, Tryz.t85, Tryz.t85.desc),
  (86, Tryz.t86, Tryz.t86.desc),
  (87, Tryz.t87, Tryz.t87.desc),
  (88, Tryz.t88, Tryz.t88.desc),
  (89, Tryz.t89, Tryz.t89.desc),
  (90, Tryz.t90, Tryz.t90.desc),
  (91, Tryz.t91, Tryz.t91.desc),
  (92, Tryz.t92, Tryz.t92.desc),
  (93, Tryz.t93, Tryz.t93.desc),
  (94, Tryz.t94, Tryz.t3.desc),
  (95, Tryz.t95, Tryz.t95.desc),
  (96, Tryz.t96, Tryz.t96.desc),
  (97, Tryz.t97, Tryz.t97.desc),
  (98, Tryz.t98, Tryz.t98.desc),
  (99, Tryz.t99, Tryz.t99.desc),
  (100, Tryz.t100, Tryz.t100.desc),
  (101, Tryz.t101, Tryz.t101.desc),
  (102, Tryz.t102, Tryz.t102.desc),
  (103, Tryz.t103, Tryz.t103.desc),
  (104, Tryz.t104, Tryz.t104.desc),
  (105, Tryz.t105, Tryz.t105.desc),
  (106, Tryz.t106, Tryz.t106.desc),
  (107, Tryz.t107, Tryz.t107.desc),
  (108, Tryz.t108, Tryz.t108.desc),
  (109, Tryz.t109, Tryz.t109.desc),
  (110, Tryz.t110, Tryz.t110.desc),
  (111, Tryz.t111, Tryz.t111.desc),
  (112, Tryz.t112, Tryz.t112.desc),
  (113, Tryz.t113, Tryz.t113.desc),
  (114, Tryz.t114, Tryz.t114.desc),
  (115, Tryz.t115, Tryz.t115.desc),
  (116, Tryz.t116, Tryz.t116.desc),
  (117, Tryz.t117, Tryz.t117.desc),
  (118, Tryz.t118, Tryz.t118.desc),
  (119, Tryz.t119, Tryz.t119.desc),
  (120, Tryz.t120, Tryz.t120.desc),
  (121, Tryz.t121, Tryz.t121.desc),
  (122, Tryz.t122, Tryz.t122.desc),
  (123, Tryz.t123, Tryz.t123.desc),
  (124, Tryz.t124, Tryz.t124.desc),
  (125, Tryz.t125, Tryz.t125.desc),
  (126, Tryz.t126, Tryz.t126.desc),
  (127, Tryz.t127, Tryz.t127.desc),
  (128, Tryz.t128, Tryz.t128.desc),
  (129, Tryz.t129, Tryz.t129.desc),
  (130, Tryz.t130, Tryz.t129.desc),
  (131, Tryz.t131, Tryz.t131.desc),
  (132, Tryz.t132, Tryz.t132.desc),
  (133, Tryz.t133, Tryz.t133.desc),
  (134, Tryz.t134, Tryz.t134.desc),
  (135, Tryz.t135, Tryz.t135.desc),
  (136, Tryz.t136, Tryz.t136.desc),
  (137, Tryz.t137, Tryz.t137.desc),
  (138, Tryz.t138, Tryz.t138.desc),
  (139, Tryz.t139, Tryz.t139.desc),
  (140, Tryz.t140, Tryz.t139.desc),
  (141, Tryz.t141, Tryz.t141.desc),
  (142, Tryz.t142, Tryz.t142.desc),
  (143, Tryz.t143, Tryz.t143.desc),
  (144, Tryz.t144, Tryz.t144.desc),
  (145, Tryz.t145, Tryz.t145.desc),
  (146, Tryz.t146, Tryz.t145.desc),
  (147, Tryz.t147, Tryz.t147.desc),
  (148, Tryz.t148, Tryz.t148.desc),
  (149, Tryz.t149, Tryz.t149.desc),
  (150, Tryz.t150, Tryz.t149.desc),
  (151, Tryz.t151, Tryz.t151.desc),
  (152, Tryz.t152, Tryz.t152.desc),
  (153, Tryz.t153, Tryz.t152.desc),
  (154, Tryz.t154, Tryz.t5.desc),
  (155, Tryz.t155, Tryz.t5.desc),
  (156, Tryz.t156, Tryz.t156.desc),
  (157, Tryz.t157, Tryz.t21.desc),
  (158, Tryz.t158, Tryz.t21.desc),
  (159, Tryz.t159, Tryz.t159.desc),
  (160, Tryz.t160, Tryz.t159.desc),
  (161, Tryz.t161, Tryz.t161.desc)]
theorem tysOK : TysOK Tryz.prog tys := TysAll.ok (
  ⟨⟨Tryz.type0, Tryz.underlying0⟩,
  ⟨⟨Tryz.type1, Tryz.underlying1⟩,
  ⟨⟨Tryz.type2, Tryz.underlying2⟩,
  ⟨⟨Tryz.type3, Tryz.underlying3⟩,
  ⟨⟨Tryz.type4, Tryz.underlying4⟩,
  ⟨⟨Tryz.type5, Tryz.underlying5⟩,
  ⟨⟨Tryz.type6, Tryz.underlying6⟩,
  ⟨⟨Tryz.type7, Tryz.underlying7⟩,
  ⟨⟨Tryz.type8, Tryz.underlying8⟩,
  ⟨⟨Tryz.type9, Tryz.underlying9⟩,
  ⟨⟨Tryz.type10, Tryz.underlying10⟩,
  ⟨⟨Tryz.type11, Tryz.underlying11⟩,
  ⟨⟨Tryz.type12, Tryz.underlying12⟩,
  ⟨⟨Tryz.type13, Tryz.underlying13⟩,
  ⟨⟨Tryz.type14, Tryz.underlying14⟩,
  ⟨⟨Tryz.type15, Tryz.underlying15⟩,
  ⟨⟨Tryz.type16, Tryz.underlying16⟩,
  ⟨⟨Tryz.type17, Tryz.underlying17⟩,
  ⟨⟨Tryz.type18, Tryz.underlying18⟩,
  ⟨⟨Tryz.type19, Tryz.underlying19⟩,
  ⟨⟨Tryz.type20, Tryz.underlying20⟩,
  ⟨⟨Tryz.type21, Tryz.underlying21⟩,
  ⟨⟨Tryz.type22, Tryz.underlying22⟩,
  ⟨⟨Tryz.type23, Tryz.underlying23⟩,
  ⟨⟨Tryz.type24, Tryz.underlying24⟩,
  ⟨⟨Tryz.type25, Tryz.underlying25⟩,
  ⟨⟨Tryz.type26, Tryz.underlying26⟩,
  ⟨⟨Tryz.type27, Tryz.underlying27⟩,
  ⟨⟨Tryz.type28, Tryz.underlying28⟩,
  ⟨⟨Tryz.type29, Tryz.underlying29⟩,
  ⟨⟨Tryz.type30, Tryz.underlying30⟩,
  ⟨⟨Tryz.type31, Tryz.underlying31⟩,
  ⟨⟨Tryz.type32, Tryz.underlying32⟩,
  ⟨⟨Tryz.type33, Tryz.underlying33⟩,
  ⟨⟨Tryz.type34, Tryz.underlying34⟩,
  ⟨⟨Tryz.type35, Tryz.underlying35⟩,
  ⟨⟨Tryz.type36, Tryz.underlying36⟩,
  ⟨⟨Tryz.type37, Tryz.underlying37⟩,
  ⟨⟨Tryz.type38, Tryz.underlying38⟩,
  ⟨⟨Tryz.type39, Tryz.underlying39⟩,
  ⟨⟨Tryz.type40, Tryz.underlying40⟩,
  ⟨⟨Tryz.type41, Tryz.underlying41⟩,
  ⟨⟨Tryz.type42, Tryz.underlying42⟩,
  ⟨⟨Tryz.type43, Tryz.underlying43⟩,
  ⟨⟨Tryz.type44, Tryz.underlying44⟩,
  ⟨⟨Tryz.type45, Tryz.underlying45⟩,
  ⟨⟨Tryz.type46, Tryz.underlying46⟩,
  ⟨⟨Tryz.type47, Tryz.underlying47⟩,
  ⟨⟨Tryz.type48, Tryz.underlying48⟩,
  ⟨⟨Tryz.type49, Tryz.underlying49⟩,
  ⟨⟨Tryz.type50, Tryz.underlying50⟩,
  ⟨⟨Tryz.type51, Tryz.underlying51⟩,
  ⟨⟨Tryz.type52, Tryz.underlying52⟩,
  ⟨⟨Tryz.type53, Tryz.underlying53⟩,
  ⟨⟨Tryz.type54, Tryz.underlying54⟩,
  ⟨⟨Tryz.type55, Tryz.underlying55⟩,
  ⟨⟨Tryz.type56, Tryz.underlying56⟩,
  ⟨⟨Tryz.type57, Tryz.underlying57⟩,
  ⟨⟨Tryz.type58, Tryz.underlying58⟩,
  ⟨⟨Tryz.type59, Tryz.underlying59⟩,
  ⟨⟨Tryz.type60, Tryz.underlying60⟩,
  ⟨⟨Tryz.type61, Tryz.underlying61⟩,
  ⟨⟨Tryz.type62, Tryz.underlying62⟩,
  ⟨⟨Tryz.type63, Tryz.underlying63⟩,
  ⟨⟨Tryz.type64, Tryz.underlying64⟩,
  ⟨⟨Tryz.type65, Tryz.underlying65⟩,
  ⟨⟨Tryz.type66, Tryz.underlying66⟩,
  ⟨⟨Tryz.type67, Tryz.underlying67⟩,
  ⟨⟨Tryz.type68, Tryz.underlying68⟩,
  ⟨⟨Tryz.type69, Tryz.underlying69⟩,
  ⟨⟨Tryz.type70, Tryz.underlying70⟩,
  ⟨⟨Tryz.type71, Tryz.underlying71⟩,
  ⟨⟨Tryz.type72, Tryz.underlying72⟩,
  ⟨⟨Tryz.type73, Tryz.underlying73⟩,
  ⟨⟨Tryz.type74, Tryz.underlying74⟩,
  ⟨⟨Tryz.type75, Tryz.underlying75⟩,
  ⟨⟨Tryz.type76, Tryz.underlying76⟩,
  ⟨⟨Tryz.type77, Tryz.underlying77⟩,
  ⟨⟨Tryz.type78, Tryz.underlying78⟩,
  ⟨⟨Tryz.type79, Tryz.underlying79⟩,
  ⟨⟨Tryz.type80, Tryz.underlying80⟩,
  ⟨⟨Tryz.type81, Tryz.underlying81⟩,
  ⟨⟨Tryz.type82, Tryz.underlying82⟩,
  ⟨⟨Tryz.type83, Tryz.underlying83⟩,
  ⟨⟨Tryz.type84, Tryz.underlying84⟩,
  ⟨⟨Tryz.type85, Tryz.underlying85⟩,
  ⟨⟨Tryz.type86, Tryz.underlying86⟩,
  ⟨⟨Tryz.type87, Tryz.underlying87⟩,
  ⟨⟨Tryz.type88, Tryz.underlying88⟩,
  ⟨⟨Tryz.type89, Tryz.underlying89⟩,
  ⟨⟨Tryz.type90, Tryz.underlying90⟩,
  ⟨⟨Tryz.type91, Tryz.underlying91⟩,
  ⟨⟨Tryz.type92, Tryz.underlying92⟩,
  ⟨⟨Tryz.type93, Tryz.underlying93⟩,
  ⟨⟨Tryz.type94, Tryz.underlying94⟩,
  ⟨⟨Tryz.type95, Tryz.underlying95⟩,
  ⟨⟨Tryz.type96, Tryz.underlying96⟩,
  ⟨⟨Tryz.type97, Tryz.underlying97⟩,
  ⟨⟨Tryz.type98, Tryz.underlying98⟩,
  ⟨⟨Tryz.type99, Tryz.underlying99⟩,
  ⟨⟨Tryz.type100, Tryz.underlying100⟩,
  ⟨⟨Tryz.type101, Tryz.underlying101⟩,
  ⟨⟨Tryz.type102, Tryz.underlying102⟩,
  ⟨⟨Tryz.type103, Tryz.underlying103⟩,
  ⟨⟨Tryz.type104, Tryz.underlying104⟩,
  ⟨⟨Tryz.type105, Tryz.underlying105⟩,
  ⟨⟨Tryz.type106, Tryz.underlying106⟩,
  ⟨⟨Tryz.type107, Tryz.underlying107⟩,
  ⟨⟨Tryz.type108, Tryz.underlying108⟩,
  ⟨⟨Tryz.type109, Tryz.underlying109⟩,
  ⟨⟨Tryz.type110, Tryz.underlying110⟩,
  ⟨⟨Tryz.type111, Tryz.underlying111⟩,
  ⟨⟨Tryz.type112, Tryz.underlying112⟩,
  ⟨⟨Tryz.type113, Tryz.underlying113⟩,
  ⟨⟨Tryz.type114, Tryz.underlying114⟩,
  ⟨⟨Tryz.type115, Tryz.underlying115⟩,
  ⟨⟨Tryz.type116, Tryz.underlying116⟩,
  ⟨⟨Tryz.type117, Tryz.underlying117⟩,
  ⟨⟨Tryz.type118, Tryz.underlying118⟩,
  ⟨⟨Tryz.type119, Tryz.underlying119⟩,
  ⟨⟨Tryz.type120, Tryz.underlying120⟩,
  ⟨⟨Tryz.type121, Tryz.underlying121⟩,
  ⟨⟨Tryz.type122, Tryz.underlying122⟩,
  ⟨⟨Tryz.type123, Tryz.underlying123⟩,
  ⟨⟨Tryz.type124, Tryz.underlying124⟩,
  ⟨⟨Tryz.type125, Tryz.underlying125⟩,
  ⟨⟨Tryz.type126, Tryz.underlying126⟩,
  ⟨⟨Tryz.type127, Tryz.underlying127⟩,
  ⟨⟨Tryz.type128, Tryz.underlying128⟩,
  ⟨⟨Tryz.type129, Tryz.underlying129⟩,
  ⟨⟨Tryz.type130, Tryz.underlying130⟩,
  ⟨⟨Tryz.type131, Tryz.underlying131⟩,
  ⟨⟨Tryz.type132, Tryz.underlying132⟩,
  ⟨⟨Tryz.type133, Tryz.underlying133⟩,
  ⟨⟨Tryz.type134, Tryz.underlying134⟩,
  ⟨⟨Tryz.type135, Tryz.underlying135⟩,
  ⟨⟨Tryz.type136, Tryz.underlying136⟩,
  ⟨⟨Tryz.type137, Tryz.underlying137⟩,
  ⟨⟨Tryz.type138, Tryz.underlying138⟩,
  ⟨⟨Tryz.type139, Tryz.underlying139⟩,
  ⟨⟨Tryz.type140, Tryz.underlying140⟩,
  ⟨⟨Tryz.type141, Tryz.underlying141⟩,
  ⟨⟨Tryz.type142, Tryz.underlying142⟩,
  ⟨⟨Tryz.type143, Tryz.underlying143⟩,
  ⟨⟨Tryz.type144, Tryz.underlying144⟩,
  ⟨⟨Tryz.type145, Tryz.underlying145⟩,
  ⟨⟨Tryz.type146, Tryz.underlying146⟩,
  ⟨⟨Tryz.type147, Tryz.underlying147⟩,
  ⟨⟨Tryz.type148, Tryz.underlying148⟩,
  ⟨⟨Tryz.type149, Tryz.underlying149⟩,
  ⟨⟨Tryz.type150, Tryz.underlying150⟩,
  ⟨⟨Tryz.type151, Tryz.underlying151⟩,
  ⟨⟨Tryz.type152, Tryz.underlying152⟩,
  ⟨⟨Tryz.type153, Tryz.underlying153⟩,
  ⟨⟨Tryz.type154, Tryz.underlying154⟩,
  ⟨⟨Tryz.type155, Tryz.underlying155⟩,
  ⟨⟨Tryz.type156, Tryz.underlying156⟩,
  ⟨⟨Tryz.type157, Tryz.underlying157⟩,
  ⟨⟨Tryz.type158, Tryz.underlying158⟩,
  ⟨⟨Tryz.type159, Tryz.underlying159⟩,
  ⟨⟨Tryz.type160, Tryz.underlying160⟩,
  ⟨⟨Tryz.type161, Tryz.underlying161⟩, trivial⟩⟩⟩⟩⟩⟩⟩⟩⟩⟩⟩⟩⟩⟩⟩⟩⟩⟩⟩⟩⟩⟩⟩⟩⟩⟩⟩⟩⟩⟩⟩⟩⟩⟩⟩⟩⟩⟩⟩⟩⟩⟩⟩⟩⟩⟩⟩⟩⟩⟩⟩⟩⟩⟩⟩⟩⟩⟩⟩⟩⟩⟩⟩⟩⟩⟩⟩⟩⟩⟩⟩⟩⟩⟩⟩⟩⟩⟩⟩⟩⟩⟩⟩⟩⟩⟩⟩⟩⟩⟩⟩⟩⟩⟩⟩⟩⟩⟩⟩⟩⟩⟩⟩⟩⟩⟩⟩⟩⟩⟩⟩⟩⟩⟩⟩⟩⟩⟩⟩⟩⟩⟩⟩⟩⟩⟩⟩⟩⟩⟩⟩⟩⟩⟩⟩⟩⟩⟩⟩⟩⟩⟩⟩⟩⟩⟩⟩⟩⟩⟩⟩⟩⟩⟩⟩⟩⟩⟩⟩⟩⟩⟩)
theorem mixed : Tryz.prog.follows .mixedOrders = true := by kernel_rfl
end Go.Proofs.YtdnkeeedcnjofaaGreatDoor.Sx


/-
  min, max of two numbers; a loop of a few rounds, unrolled.
-/
set_option linter.unusedVariables false
set_option linter.unusedSimpArgs false
namespace Go.Proofs.YtdnkeeedcnjofaaGreatDoor
open Go Go.RowKit Sx

theorem N.min2 {ts : Array TypeId} {t : TypeId} {k : IntKind} {x y : Int} {K : Value → Prop} (h : K (.int k (min x y))) : N (BuiltN Tryz.prog .min ts t [.int k x, .int k y] K) := by
  refine N.mk ⟨.int k (min x y), ⟨rfl, rfl, fun cs w => ?_⟩, h⟩
  have e : (if y < x then y else x) = min x y := by split <;> omega
  show (do pure (Next.value (← Builtin.min_ ts t #[.int k x, .int k y])) : Sem _).run Tryz.prog w = _
  rw [Sem.run_bind, run_min_int2, e]; rfl
theorem N.max2 {ts : Array TypeId} {t : TypeId} {k : IntKind} {x y : Int} {K : Value → Prop} (h : K (.int k (max x y))) : N (BuiltN Tryz.prog .max ts t [.int k x, .int k y] K) := by
  refine N.mk ⟨.int k (max x y), ⟨rfl, rfl, fun cs w => ?_⟩, h⟩
  have e : (if y > x then y else x) = max x y := by split <;> omega
  show (do pure (Next.value (← Builtin.max_ ts t #[.int k x, .int k y])) : Sem _).run Tryz.prog w = _
  rw [Sem.run_bind, run_max_int2, e]; rfl
/-- A loop of a few rounds, unrolled. -/
noncomputable def Roll (A : CodeT) (Q : Exit → St → Prop) (k : Nat) : St → Prop := Nat.rec (motive := fun _ => St → Prop) (fun _ => False) (fun _ W st => A (thenQ W Q) st) k
theorem N.roll {P : Program} {G : Tys} {n0 : Nat} {c : Code} {A : (Exit → St → Prop) → St → Prop} {Q : Exit → St → Prop} {st : St} (k : Nat) (h : Roll A Q k st) : N (LoopN P G n0 c A Q st) :=
  N.mk ⟨(k : Nat) × {s : St // Roll A Q k s}, fun x => x.2.1, fun _ => True, fun x => x.1, fun x s => ∃ j, x.1 = j + 1 ∧ Roll A Q j s, fun x s hx => by
    obtain ⟨j, hj, hr⟩ := hx
    refine ⟨⟨j, s, hr⟩, trivial, ?_, by show j < x.1; omega⟩
    exact (Wk.refl _ _).g, ⟨⟨k, st, h⟩, trivial, (Wk.refl _ _).g⟩, fun x _ => by
    obtain ⟨k, s, hs⟩ := x
    cases k with
    | zero => exact hs.elim
    | succ j =>
      have : (fun s' => ∃ i, j + 1 = i + 1 ∧ Roll A Q i s') = Roll A Q j := by
        funext s'
        refine propext ⟨fun ⟨i, hi, hr⟩ => ?_, fun hr => ⟨j, rfl, hr⟩⟩
        have : j = i := by simpa using hi
        subst this; exact hr
      show A (thenQ (fun s' => ∃ i, j + 1 = i + 1 ∧ Roll A Q i s') Q) s
      rw [this]; exact hs⟩
theorem Tryz.own : ownKnob Tryz.prog.godebug = none := by kernel_rfl
theorem Tryz.laidOut : laidOutB Tryz.prog = true := by kernel_rfl
theorem u64mod (x : Int) (m : Int) (h0 : 0 < m) (h1 : m ≤ 9223372036854775807) : 0 ≤ IntKind.i64.wrap ((IntKind.u64.wrap x).tmod m) ∧ IntKind.i64.wrap ((IntKind.u64.wrap x).tmod m) < m := by
  have e : 0 ≤ IntKind.u64.wrap x := by rw [IntKind.wrap_u64]; omega
  rw [Int.tmod_eq_emod_of_nonneg e]
  have a := Int.emod_nonneg (IntKind.u64.wrap x) (by omega : m ≠ 0)
  have b := Int.emod_lt_of_pos (IntKind.u64.wrap x) h0
  rw [IntKind.wrap_i64, show (IntKind.u64.wrap x % m + 9223372036854775808) % 18446744073709551616 - 9223372036854775808 = IntKind.u64.wrap x % m from by omega]
  exact ⟨a, b⟩
theorem tmodR (x m : Int) (hm : 0 < m) : -m < x.tmod m ∧ x.tmod m < m := by
  rcases Int.le_total 0 x with h | h
  · rw [Int.tmod_eq_emod_of_nonneg h]
    have a := Int.emod_nonneg x (by omega : m ≠ 0)
    have b := Int.emod_lt_of_pos x hm
    omega
  · have : x.tmod m = -((-x).tmod m) := by rw [Int.neg_tmod]; omega
    rw [this, Int.tmod_eq_emod_of_nonneg (by omega)]
    have a := Int.emod_nonneg (-x) (by omega : m ≠ 0)
    have b := Int.emod_lt_of_pos (-x) hm
    omega
end Go.Proofs.YtdnkeeedcnjofaaGreatDoor


/-
  The document's Number: what it answers at any text.
-/
set_option linter.unusedVariables false
set_option linter.unusedSimpArgs false
namespace Go.Proofs.YtdnkeeedcnjofaaGreatDoor
open Go Go.RowKit Sx

theorem N.idxS {s : ByteArray} {a : Int} {K : Value → Prop} (j : Nat) (b : UInt8) (h : a = (j : Nat)) (hb : s[j]? = some b) (k : K (.int .u8 b.toNat)) : N (IdxS s a K) := N.mk ⟨j, b, h, hb, k⟩
theorem N.bndT {lo hi : Option Value} {len cap : Nat} {K : Nat → Nat → Nat → Prop} (p q s : Nat) (h1 : Bnd hi len cap q) (h2 : Bnd lo 0 q p) (k : K p q s) : N (BndN lo hi len cap K) := N.mk ⟨p, q, s, h1, h2, k⟩
theorem N.lenS {t ty : TypeId} {s : ByteArray} {K : Value → Prop} (ht : Tryz.prog.underlying t = some .string) (h : K (.int .i64 (s.size : Nat))) : N (BuiltN Tryz.prog .len #[t] ty [.string s] K) := by
  refine N.mk ⟨.int .i64 (s.size : Nat), ⟨rfl, rfl, fun cs w => ?_⟩, h⟩
  show (do pure (Next.value (← Builtin.len_ #[t] ty #[.string s])) : Sem _).run Tryz.prog w = _
  rw [Sem.run_bind, run_len_string w t ty s ht]; rfl
theorem str_eql (x y : Operand) (a b : ByteArray) : BinIs Tryz.prog .eql 9 x y (.string a) (.string b) (.bool (decide (a = b))) := ⟨rfl, rfl, rfl, fun w => by
  by_cases h : a = b
  · subst h; rw [decide_eq_true rfl]; go_simp
  · rw [decide_eq_false h]; go_simp; rw [ByteArray.toList_eq, ByteArray.toList_eq]; exact fun e => h (ByteArray.ext (Array.toList_inj.1 e))⟩
theorem str_neq (x y : Operand) (a b : ByteArray) : BinIs Tryz.prog .neq 9 x y (.string a) (.string b) (.bool (!decide (a = b))) := ⟨rfl, rfl, rfl, fun w => by
  by_cases h : a = b
  · subst h; rw [decide_eq_true rfl]; go_simp
  · rw [decide_eq_false h]; go_simp; rw [ByteArray.toList_eq, ByteArray.toList_eq]; exact fun e => h (ByteArray.ext (Array.toList_inj.1 e))⟩
theorem ba_get (s : ByteArray) (j : Nat) : s[j]? = s.data.toList[j]? := by
  show s.data[j]? = _
  rw [Array.getElem?_toList]
theorem ba_size (s : ByteArray) : s.data.toList.length = s.size := by rw [Array.length_toList]; rfl
theorem ba_ext (s : ByteArray) (p q : Nat) : (s.extract p q).data.toList = (s.data.toList.drop p).take (q - p) := by
  rw [ByteArray.data_extract, Array.toList_extract, List.extract_eq_take_drop]
theorem numV_n {m : Nat} (h : m ≤ 9223372036854775808) : Value.tuple #[.int .i64 (IntKind.i64.wrap (IntKind.u64.wrap (0 - (m : Int)))), .bool true] = Value.tuple #[.int .i64 (Txt.numV true (some m)).1, .bool (Txt.numV true (some m)).2] := by
  have e : Txt.numV true (some m) = (-(m : Int), true) := by simp [Txt.numV, h]
  rw [e, IntKind.wrap_u64, IntKind.wrap_i64]
  have : ((0 - (m : Int)) % 18446744073709551616 + 9223372036854775808) % 18446744073709551616 - 9223372036854775808 = -(m : Int) := by omega
  first | rw [this] | (congr 2; congr 1; congr 1; omega)
theorem numV_n0 {m : Nat} (h : ¬ m ≤ 9223372036854775808) : Value.tuple #[.int .i64 0, .bool false] = Value.tuple #[.int .i64 (Txt.numV true (some m)).1, .bool (Txt.numV true (some m)).2] := by
  have e : Txt.numV true (some m) = (0, false) := by simp [Txt.numV, h]
  rw [e]
theorem numV_p {m : Nat} (h : m < 9223372036854775808) : Value.tuple #[.int .i64 (IntKind.i64.wrap (m : Int)), .bool true] = Value.tuple #[.int .i64 (Txt.numV false (some m)).1, .bool (Txt.numV false (some m)).2] := by
  have e : Txt.numV false (some m) = ((m : Int), true) := by simp [Txt.numV, h]
  rw [e, i64s _ (by omega) (by omega)]
theorem numV_p0 {m : Nat} (h : ¬ m < 9223372036854775808) : Value.tuple #[.int .i64 0, .bool false] = Value.tuple #[.int .i64 (Txt.numV false (some m)).1, .bool (Txt.numV false (some m)).2] := by
  have e : Txt.numV false (some m) = (0, false) := by simp [Txt.numV, h]
  rw [e]
theorem dig_step {m x : Nat} (hm : m < 1000000000000000000) (hx : 48 ≤ x ∧ x ≤ 57) : IntKind.u64.wrap (IntKind.u64.wrap (10 * (m : Int)) + IntKind.u64.wrap (IntKind.u8.wrap ((x : Int) - 48))) = ((10 * m + (x - 48) : Nat) : Int) := by
  have w1 : ∀ z : Int, 0 ≤ z → z < 18446744073709551616 → IntKind.u64.wrap z = z := fun z h1 h2 => by rw [IntKind.wrap_u64]; omega
  have w2 : IntKind.u8.wrap ((x : Int) - 48) = (x : Int) - 48 := by rw [IntKind.wrap_u8]; omega
  rw [w2, w1 (10 * (m : Int)) (by omega) (by omega), w1 ((x : Int) - 48) (by omega) (by omega), w1 _ (by omega) (by omega)]
  omega
theorem ba_empty {t : ByteArray} (h : t.size = 0) : t = ⟨#[]⟩ := ByteArray.ext (Array.eq_empty_of_size_eq_zero h)
theorem ba_list2 {a b : ByteArray} (h : a.data.toList = b.data.toList) : a = b := ByteArray.ext (Array.toList_inj.1 h)
theorem num_bad {l : List UInt8} (h : Txt.numT l = [] ∨ 19 < (Txt.numT l).length ∨ (Txt.numT l).head? = some 48 ∧ l ≠ [48]) : Txt.numF l = (0, false) := by
  unfold Txt.numF
  rw [if_pos]
  unfold Txt.numBad
  rcases h with h | h | ⟨h, h2⟩
  · rw [decide_eq_true h]; rfl
  · rw [decide_eq_true h, Bool.or_true]; rfl
  · rw [decide_eq_true h, decide_eq_true h2, Bool.and_true, Bool.or_true]
theorem num_good {s t : ByteArray} (hT : t.data.toList = Txt.numT s.data.toList) (h1 : t ≠ ⟨#[]⟩) (h2 : ¬ 19 < t.size) (h3 : (Txt.numT s.data.toList).head? ≠ some 48 ∨ s.data.toList = [48]) : Txt.numBad s.data.toList = false := by
  unfold Txt.numBad
  rw [← hT] at *
  rw [decide_eq_false (fun h => h1 (ba_list2 h)), decide_eq_false (by rw [ba_size]; exact h2)]
  rcases h3 with h | h
  · rw [decide_eq_false h]; rfl
  · rw [h]; cases decide (t.data.toList.head? = some 48) <;> rfl
theorem num_step {t : ByteArray} {k m : Nat} {x : UInt8} (hx : t[k]? = some x) (hm : Txt.scan (t.data.toList.take k) 0 = some m) : Txt.scan (t.data.toList.take (k + 1)) 0 = if 48 ≤ x.toNat ∧ x.toNat ≤ 57 then some (10 * m + (x.toNat - 48)) else none := by
  rw [ba_get] at hx
  rw [List.take_add_one, hx, Txt.scan_append, hm]
  show Txt.scan [x] m = _
  show (if _ then Txt.scan [] _ else none) = _
  split <;> rfl
theorem num_small {t : ByteArray} {k m : Nat} (hk : k ≤ t.size) (h19 : t.size ≤ 19) (hl : k < t.size) (hm : Txt.scan (t.data.toList.take k) 0 = some m) : m < 1000000000000000000 := by
  have := Txt.scan_lt _ _ _ hm
  rw [List.length_take, ba_size, Nat.min_eq_left hk, Nat.zero_add, Nat.one_mul] at this
  exact Nat.lt_of_lt_of_le this (Nat.pow_le_pow_right (by decide) (by omega : k ≤ 18))
theorem num_small2 {t : ByteArray} {k m : Nat} (hk : k ≤ t.size) (h19 : t.size ≤ 19) (hm : Txt.scan (t.data.toList.take k) 0 = some m) : m < 10000000000000000000 := by
  have := Txt.scan_lt _ _ _ hm
  rw [List.length_take, ba_size, Nat.min_eq_left hk, Nat.zero_add, Nat.one_mul] at this
  exact Nat.lt_of_lt_of_le this (Nat.pow_le_pow_right (by decide) (by omega : k ≤ 19))
theorem num_none {l : List UInt8} {k : Nat} (hg : Txt.numBad l = false) (h : Txt.scan ((Txt.numT l).take k) 0 = none) : Txt.numF l = (0, false) := by
  unfold Txt.numF
  rw [hg, if_neg (by decide)]
  have : Txt.scan (Txt.numT l) 0 = none := by
    conv => lhs; rw [← List.take_append_drop k (Txt.numT l)]
    rw [Txt.scan_append, h]; rfl
  rw [this]; rfl
theorem num_some {l : List UInt8} {b : Bool} {m : Nat} (hg : Txt.numBad l = false) (hb : decide (l.head? = some 45) = b) (h : Txt.scan (Txt.numT l) 0 = some m) : Txt.numF l = Txt.numV b (some m) := by
  unfold Txt.numF
  rw [hg, if_neg (by decide), hb, h]
set_option maxRecDepth 100000 in
set_option maxHeartbeats 4000000 in
theorem rnumber_x (s : ByteArray) (hs : s.size ≤ 1000) (w : World) : Calls Tryz.prog 14 #[.string s] w fun e w' => e = .returned (.tuple #[.int .i64 (Txt.numF s.data.toList).1, .bool (Txt.numF s.data.toList).2]) ∧ Below w.heap.size w w' := by
  have hz := ba_size s
  refine calls_pure (G := tys) (vs := [.string s]) w tysOK mixed Tryz.func14 (by rfl) rfl rfl ?_
  by_cases h0 : s.size = 0
  · have h00 := ba_empty h0
    have hF : Txt.numF s.data.toList = (0, false) := num_bad (.inl (by rw [h00]; rfl))
    repeat' (refine N.go ?_; first | with_reducible refine N.obl (by decide) ?_ | with_reducible refine N.obl (flat_wi _ _ _) ?_ | with_reducible refine N.obl (flat_lim _ _) ?_ | with_reducible refine N.eq ?_ | with_reducible refine N.obl rfl ?_ | with_reducible refine N.obl ⟨by kernel_rfl, by kernel_rfl⟩ ?_ | with_reducible refine N.alt ?_ | with_reducible refine N.forkT ?_ | with_reducible refine N.forkF ?_ | refine N.lenS Tryz.underlying9 ?_ | refine N.bin _ (str_eql _ _ _ _) ?_ | refine N.bin _ (str_neq _ _ _ _) ?_ | refine N.forkNo (decide_eq_false (by omega)) ?_ | refine N.forkYes (decide_eq_true h00) ?_ | fail_if_success skip)
    rw [hF]
  obtain ⟨b, hb⟩ : ∃ b, s[0]? = some b := ⟨_, getElem?_pos s 0 (by omega)⟩
  have hbh : s.data.toList.head? = some b := by rw [List.head?_eq_getElem?, ← ba_get]; exact hb
  by_cases h45 : b = 45
  · have e45 : (((b.toNat : Nat) : Int) == 45) = true := by rw [h45]; rfl
    have hneg : decide (s.data.toList.head? = some 45) = true := by rw [hbh, h45]; exact decide_eq_true rfl
    repeat' (refine N.go ?_; first | with_reducible refine N.obl (by decide) ?_ | with_reducible refine N.obl (flat_wi _ _ _) ?_ | with_reducible refine N.obl (flat_lim _ _) ?_ | with_reducible refine N.eq ?_ | with_reducible refine N.obl rfl ?_ | with_reducible refine N.obl ⟨by kernel_rfl, by kernel_rfl⟩ ?_ | with_reducible refine N.alt ?_ | with_reducible refine N.forkT ?_ | with_reducible refine N.forkF ?_ | refine N.lenS Tryz.underlying9 ?_ | refine N.idxS 0 b rfl hb ?_ | refine N.forkYes (decide_eq_true (by omega)) ?_ | refine N.forkYes e45 ?_ | refine N.forkNo e45 ?_ | fail_if_success skip)
    refine N.go ?_
    refine N.bndT 1 s.size 0 rfl ⟨rfl, Nat.pos_of_ne_zero h0⟩ ?_
    have hT : (s.extract 1 s.size).data.toList = Txt.numT s.data.toList := by
      unfold Txt.numT
      rw [hbh, h45, if_pos rfl, ba_ext, ← hz, List.take_of_length_le (Nat.le_of_eq (List.length_drop ..)), List.drop_one]
    generalize s.extract 1 s.size = t at *
    by_cases hte : t = ⟨#[]⟩
    · have hF : Txt.numF s.data.toList = (0, false) := num_bad (.inl (by rw [← hT, hte]))
      repeat' (refine N.go ?_; first | with_reducible refine N.obl (by decide) ?_ | with_reducible refine N.obl (flat_wi _ _ _) ?_ | with_reducible refine N.obl (flat_lim _ _) ?_ | with_reducible refine N.eq ?_ | with_reducible refine N.obl rfl ?_ | with_reducible refine N.obl ⟨by kernel_rfl, by kernel_rfl⟩ ?_ | with_reducible refine N.alt ?_ | with_reducible refine N.forkT ?_ | with_reducible refine N.forkF ?_ | refine N.lenS Tryz.underlying9 ?_ | refine N.bin _ (str_eql _ _ _ _) ?_ | refine N.bin _ (str_neq _ _ _ _) ?_ | refine N.forkYes e45 ?_ | refine N.forkNo e45 ?_ | refine N.forkNo (by rw [e45]; rfl) ?_ | refine N.forkYes (decide_eq_true hte) ?_ | fail_if_success skip)
      rw [hF]
    have htz : 0 < t.size := Nat.pos_of_ne_zero fun e => hte (ba_empty e)
    by_cases h19 : 19 < t.size
    · have hF : Txt.numF s.data.toList = (0, false) := num_bad (.inr (.inl (by rw [← hT, ba_size]; exact h19)))
      repeat' (refine N.go ?_; first | with_reducible refine N.obl (by decide) ?_ | with_reducible refine N.obl (flat_wi _ _ _) ?_ | with_reducible refine N.obl (flat_lim _ _) ?_ | with_reducible refine N.eq ?_ | with_reducible refine N.obl rfl ?_ | with_reducible refine N.obl ⟨by kernel_rfl, by kernel_rfl⟩ ?_ | with_reducible refine N.alt ?_ | with_reducible refine N.forkT ?_ | with_reducible refine N.forkF ?_ | refine N.lenS Tryz.underlying9 ?_ | refine N.bin _ (str_eql _ _ _ _) ?_ | refine N.bin _ (str_neq _ _ _ _) ?_ | refine N.forkYes e45 ?_ | refine N.forkNo e45 ?_ | refine N.forkNo (by rw [e45]; rfl) ?_ | refine N.forkNo (decide_eq_false hte) ?_ | refine N.forkYes (decide_eq_true (by omega)) ?_ | fail_if_success skip)
      rw [hF]
    obtain ⟨c, hc⟩ : ∃ c, t[0]? = some c := ⟨_, getElem?_pos t 0 htz⟩
    have hch : (Txt.numT s.data.toList).head? = some c := by rw [← hT, List.head?_eq_getElem?, ← ba_get]; exact hc
    by_cases h48 : c = 48
    · have e48 : (((c.toNat : Nat) : Int) == 48) = true := by rw [h48]; rfl
      by_cases hs1 : s = ⟨#[48]⟩
      · have hg : Txt.numBad s.data.toList = false := num_good hT hte h19 (.inr (by rw [hs1]))
        repeat' (refine N.go ?_; first | with_reducible refine N.obl (by decide) ?_ | with_reducible refine N.obl (flat_wi _ _ _) ?_ | with_reducible refine N.obl (flat_lim _ _) ?_ | with_reducible refine N.eq ?_ | with_reducible refine N.obl rfl ?_ | with_reducible refine N.obl ⟨by kernel_rfl, by kernel_rfl⟩ ?_ | with_reducible refine N.alt ?_ | with_reducible refine N.forkT ?_ | with_reducible refine N.forkF ?_ | refine N.lenS Tryz.underlying9 ?_ | refine N.bin _ (str_eql _ _ _ _) ?_ | refine N.bin _ (str_neq _ _ _ _) ?_ | refine N.forkYes e45 ?_ | refine N.forkNo e45 ?_ | refine N.forkNo (by rw [e45]; rfl) ?_ | refine N.forkNo (decide_eq_false hte) ?_ | refine N.forkNo (decide_eq_false (by omega)) ?_ | refine N.idxS 0 c rfl hc ?_ | refine N.forkYes e48 ?_ | refine N.forkNo (by rw [decide_eq_true hs1]; rfl) ?_ | fail_if_success skip)
        refine N.go ?_
        refine N.loop (α := Nat × Nat) (fun q => q.1 ≤ t.size ∧ Txt.scan (t.data.toList.take q.1) 0 = some q.2) (fun q => t.size - q.1) (fun q => [(38, .int .i64 (q.1 : Nat)), (6, .int .u64 (q.2 : Nat))]) (fun q => []) (0, 0) ⟨Nat.zero_le _, rfl⟩ ?_ ?_
        · repeat' (refine N.go ?_; first | with_reducible refine N.obl (by decide) ?_ | with_reducible refine N.obl (flat_wi _ _ _) ?_ | with_reducible refine N.obl (flat_lim _ _) ?_ | with_reducible refine N.eq ?_ | with_reducible refine N.obl rfl ?_ | with_reducible refine N.obl ⟨by kernel_rfl, by kernel_rfl⟩ ?_ | with_reducible refine N.alt ?_ | with_reducible refine N.forkT ?_ | with_reducible refine N.forkF ?_ | exact N.true | fail_if_success skip)
        rintro ⟨k, m⟩ ⟨hk, hm⟩
        have hk : k ≤ t.size := hk
        have hm : Txt.scan (t.data.toList.take k) 0 = some m := hm
        by_cases hkl : k < t.size
        · obtain ⟨x, hx⟩ : ∃ x, t[k]? = some x := ⟨_, getElem?_pos t k hkl⟩
          have hxx := num_step hx hm
          have hmb := num_small hk (by omega : t.size ≤ 19) hkl hm
          by_cases hd : 48 ≤ x.toNat ∧ x.toNat ≤ 57
          · rw [if_pos hd] at hxx
            have ev := dig_step hmb hd
            have ek : IntKind.i64.wrap ((k : Int) + 1) = ((k + 1 : Nat) : Int) := by rw [i64s _ (by omega) (by omega)]; rfl
            repeat' (refine N.go ?_; first | with_reducible refine N.obl (by decide) ?_ | with_reducible refine N.obl (flat_wi _ _ _) ?_ | with_reducible refine N.obl (flat_lim _ _) ?_ | with_reducible refine N.eq ?_ | with_reducible refine N.obl rfl ?_ | with_reducible refine N.obl ⟨by kernel_rfl, by kernel_rfl⟩ ?_ | with_reducible refine N.alt ?_ | with_reducible refine N.forkT ?_ | with_reducible refine N.forkF ?_ | refine N.lenS Tryz.underlying9 ?_ | refine N.idxS k x rfl hx ?_ | refine N.forkYes (decide_eq_true (by omega)) ?_ | refine N.forkNo (decide_eq_false (by omega)) ?_ | fail_if_success skip)
            refine N.go ?_
            refine N.next (α := Nat × Nat) (k + 1, 10 * m + (x.toNat - 48)) ⟨⟨hkl, hxx⟩, by show t.size - (k + 1) < t.size - k; omega⟩ ?_
            repeat' (refine N.go ?_; first | with_reducible refine N.obl (by decide) ?_ | with_reducible refine N.obl (flat_wi _ _ _) ?_ | with_reducible refine N.obl (flat_lim _ _) ?_ | with_reducible refine N.eq ?_ | with_reducible refine N.obl rfl ?_ | with_reducible refine N.obl ⟨by kernel_rfl, by kernel_rfl⟩ ?_ | with_reducible refine N.alt ?_ | with_reducible refine N.forkT ?_ | with_reducible refine N.forkF ?_ | exact N.true | refine N.obl (congrArg (Value.int .u64) ev) ?_ | refine N.obl (congrArg (Value.int .i64) ek) ?_ | fail_if_success skip)
          · have hF : Txt.numF s.data.toList = (0, false) := by
              rw [if_neg hd] at hxx
              exact num_none hg (by rw [← hT]; exact hxx)
            by_cases hd1 : x.toNat < 48
            · repeat' (refine N.go ?_; first | with_reducible refine N.obl (by decide) ?_ | with_reducible refine N.obl (flat_wi _ _ _) ?_ | with_reducible refine N.obl (flat_lim _ _) ?_ | with_reducible refine N.eq ?_ | with_reducible refine N.obl rfl ?_ | with_reducible refine N.obl ⟨by kernel_rfl, by kernel_rfl⟩ ?_ | with_reducible refine N.alt ?_ | with_reducible refine N.forkT ?_ | with_reducible refine N.forkF ?_ | refine N.lenS Tryz.underlying9 ?_ | refine N.idxS k x rfl hx ?_ | refine N.forkYes (decide_eq_true (by omega)) ?_ | refine N.forkNo (decide_eq_false (by omega)) ?_ | fail_if_success skip)
              rw [hF]
            · repeat' (refine N.go ?_; first | with_reducible refine N.obl (by decide) ?_ | with_reducible refine N.obl (flat_wi _ _ _) ?_ | with_reducible refine N.obl (flat_lim _ _) ?_ | with_reducible refine N.eq ?_ | with_reducible refine N.obl rfl ?_ | with_reducible refine N.obl ⟨by kernel_rfl, by kernel_rfl⟩ ?_ | with_reducible refine N.alt ?_ | with_reducible refine N.forkT ?_ | with_reducible refine N.forkF ?_ | refine N.lenS Tryz.underlying9 ?_ | refine N.idxS k x rfl hx ?_ | refine N.forkYes (decide_eq_true (by omega)) ?_ | refine N.forkNo (decide_eq_false (by omega)) ?_ | fail_if_success skip)
              rw [hF]
        · have hkt : Txt.scan (Txt.numT s.data.toList) 0 = some m := by
            rw [← hT, ← hm, List.take_of_length_le (by rw [ba_size]; omega)]
          have hF : Txt.numF s.data.toList = Txt.numV true (some m) := num_some hg hneg hkt
          have hmb := num_small2 hk (by omega : t.size ≤ 19) hm
          rw [hF]
          by_cases hr : m ≤ 9223372036854775808
          · repeat' (refine N.go ?_; first | with_reducible refine N.obl (by decide) ?_ | with_reducible refine N.obl (flat_wi _ _ _) ?_ | with_reducible refine N.obl (flat_lim _ _) ?_ | with_reducible refine N.eq ?_ | with_reducible refine N.obl rfl ?_ | with_reducible refine N.obl ⟨by kernel_rfl, by kernel_rfl⟩ ?_ | with_reducible refine N.alt ?_ | with_reducible refine N.forkT ?_ | with_reducible refine N.forkF ?_ | refine N.forkYes (decide_eq_true (by omega)) ?_ | refine N.forkNo (decide_eq_false (by omega)) ?_ | refine N.forkYes e45 ?_ | refine N.forkNo e45 ?_ | refine N.forkNo (by rw [e45]; rfl) ?_ | fail_if_success skip)
            exact numV_n hr
          · repeat' (refine N.go ?_; first | with_reducible refine N.obl (by decide) ?_ | with_reducible refine N.obl (flat_wi _ _ _) ?_ | with_reducible refine N.obl (flat_lim _ _) ?_ | with_reducible refine N.eq ?_ | with_reducible refine N.obl rfl ?_ | with_reducible refine N.obl ⟨by kernel_rfl, by kernel_rfl⟩ ?_ | with_reducible refine N.alt ?_ | with_reducible refine N.forkT ?_ | with_reducible refine N.forkF ?_ | refine N.forkYes (decide_eq_true (by omega)) ?_ | refine N.forkNo (decide_eq_false (by omega)) ?_ | refine N.forkYes e45 ?_ | refine N.forkNo e45 ?_ | refine N.forkNo (by rw [e45]; rfl) ?_ | fail_if_success skip)
            exact numV_n0 hr
      · have hF : Txt.numF s.data.toList = (0, false) := num_bad (.inr (.inr ⟨by rw [hch, h48], fun e => hs1 (ba_list2 e)⟩))
        repeat' (refine N.go ?_; first | with_reducible refine N.obl (by decide) ?_ | with_reducible refine N.obl (flat_wi _ _ _) ?_ | with_reducible refine N.obl (flat_lim _ _) ?_ | with_reducible refine N.eq ?_ | with_reducible refine N.obl rfl ?_ | with_reducible refine N.obl ⟨by kernel_rfl, by kernel_rfl⟩ ?_ | with_reducible refine N.alt ?_ | with_reducible refine N.forkT ?_ | with_reducible refine N.forkF ?_ | refine N.lenS Tryz.underlying9 ?_ | refine N.bin _ (str_eql _ _ _ _) ?_ | refine N.bin _ (str_neq _ _ _ _) ?_ | refine N.forkYes e45 ?_ | refine N.forkNo e45 ?_ | refine N.forkNo (by rw [e45]; rfl) ?_ | refine N.forkNo (decide_eq_false hte) ?_ | refine N.forkNo (decide_eq_false (by omega)) ?_ | refine N.idxS 0 c rfl hc ?_ | refine N.forkYes e48 ?_ | refine N.forkYes (by rw [decide_eq_false hs1]; rfl) ?_ | fail_if_success skip)
        rw [hF]
    · have e48 : (((c.toNat : Nat) : Int) == 48) = false := by
        rw [beq_eq_false_iff_ne]
        intro e
        have h2 : (48 : UInt8).toNat = 48 := by decide
        exact h48 (UInt8.toNat_inj.1 (by omega))
      have hg : Txt.numBad s.data.toList = false := num_good hT hte h19 (.inl (by rw [hch]; exact fun e => h48 (Option.some.inj e)))
      repeat' (refine N.go ?_; first | with_reducible refine N.obl (by decide) ?_ | with_reducible refine N.obl (flat_wi _ _ _) ?_ | with_reducible refine N.obl (flat_lim _ _) ?_ | with_reducible refine N.eq ?_ | with_reducible refine N.obl rfl ?_ | with_reducible refine N.obl ⟨by kernel_rfl, by kernel_rfl⟩ ?_ | with_reducible refine N.alt ?_ | with_reducible refine N.forkT ?_ | with_reducible refine N.forkF ?_ | refine N.lenS Tryz.underlying9 ?_ | refine N.bin _ (str_eql _ _ _ _) ?_ | refine N.bin _ (str_neq _ _ _ _) ?_ | refine N.forkYes e45 ?_ | refine N.forkNo e45 ?_ | refine N.forkNo (by rw [e45]; rfl) ?_ | refine N.forkNo (decide_eq_false hte) ?_ | refine N.forkNo (decide_eq_false (by omega)) ?_ | refine N.idxS 0 c rfl hc ?_ | refine N.forkNo e48 ?_ | fail_if_success skip)
      refine N.go ?_
      refine N.loop (α := Nat × Nat) (fun q => q.1 ≤ t.size ∧ Txt.scan (t.data.toList.take q.1) 0 = some q.2) (fun q => t.size - q.1) (fun q => [(38, .int .i64 (q.1 : Nat)), (6, .int .u64 (q.2 : Nat))]) (fun q => []) (0, 0) ⟨Nat.zero_le _, rfl⟩ ?_ ?_
      · repeat' (refine N.go ?_; first | with_reducible refine N.obl (by decide) ?_ | with_reducible refine N.obl (flat_wi _ _ _) ?_ | with_reducible refine N.obl (flat_lim _ _) ?_ | with_reducible refine N.eq ?_ | with_reducible refine N.obl rfl ?_ | with_reducible refine N.obl ⟨by kernel_rfl, by kernel_rfl⟩ ?_ | with_reducible refine N.alt ?_ | with_reducible refine N.forkT ?_ | with_reducible refine N.forkF ?_ | exact N.true | fail_if_success skip)
      rintro ⟨k, m⟩ ⟨hk, hm⟩
      have hk : k ≤ t.size := hk
      have hm : Txt.scan (t.data.toList.take k) 0 = some m := hm
      by_cases hkl : k < t.size
      · obtain ⟨x, hx⟩ : ∃ x, t[k]? = some x := ⟨_, getElem?_pos t k hkl⟩
        have hxx := num_step hx hm
        have hmb := num_small hk (by omega : t.size ≤ 19) hkl hm
        by_cases hd : 48 ≤ x.toNat ∧ x.toNat ≤ 57
        · rw [if_pos hd] at hxx
          have ev := dig_step hmb hd
          have ek : IntKind.i64.wrap ((k : Int) + 1) = ((k + 1 : Nat) : Int) := by rw [i64s _ (by omega) (by omega)]; rfl
          repeat' (refine N.go ?_; first | with_reducible refine N.obl (by decide) ?_ | with_reducible refine N.obl (flat_wi _ _ _) ?_ | with_reducible refine N.obl (flat_lim _ _) ?_ | with_reducible refine N.eq ?_ | with_reducible refine N.obl rfl ?_ | with_reducible refine N.obl ⟨by kernel_rfl, by kernel_rfl⟩ ?_ | with_reducible refine N.alt ?_ | with_reducible refine N.forkT ?_ | with_reducible refine N.forkF ?_ | refine N.lenS Tryz.underlying9 ?_ | refine N.idxS k x rfl hx ?_ | refine N.forkYes (decide_eq_true (by omega)) ?_ | refine N.forkNo (decide_eq_false (by omega)) ?_ | fail_if_success skip)
          refine N.go ?_
          refine N.next (α := Nat × Nat) (k + 1, 10 * m + (x.toNat - 48)) ⟨⟨hkl, hxx⟩, by show t.size - (k + 1) < t.size - k; omega⟩ ?_
          repeat' (refine N.go ?_; first | with_reducible refine N.obl (by decide) ?_ | with_reducible refine N.obl (flat_wi _ _ _) ?_ | with_reducible refine N.obl (flat_lim _ _) ?_ | with_reducible refine N.eq ?_ | with_reducible refine N.obl rfl ?_ | with_reducible refine N.obl ⟨by kernel_rfl, by kernel_rfl⟩ ?_ | with_reducible refine N.alt ?_ | with_reducible refine N.forkT ?_ | with_reducible refine N.forkF ?_ | exact N.true | refine N.obl (congrArg (Value.int .u64) ev) ?_ | refine N.obl (congrArg (Value.int .i64) ek) ?_ | fail_if_success skip)
        · have hF : Txt.numF s.data.toList = (0, false) := by
            rw [if_neg hd] at hxx
            exact num_none hg (by rw [← hT]; exact hxx)
          by_cases hd1 : x.toNat < 48
          · repeat' (refine N.go ?_; first | with_reducible refine N.obl (by decide) ?_ | with_reducible refine N.obl (flat_wi _ _ _) ?_ | with_reducible refine N.obl (flat_lim _ _) ?_ | with_reducible refine N.eq ?_ | with_reducible refine N.obl rfl ?_ | with_reducible refine N.obl ⟨by kernel_rfl, by kernel_rfl⟩ ?_ | with_reducible refine N.alt ?_ | with_reducible refine N.forkT ?_ | with_reducible refine N.forkF ?_ | refine N.lenS Tryz.underlying9 ?_ | refine N.idxS k x rfl hx ?_ | refine N.forkYes (decide_eq_true (by omega)) ?_ | refine N.forkNo (decide_eq_false (by omega)) ?_ | fail_if_success skip)
            rw [hF]
          · repeat' (refine N.go ?_; first | with_reducible refine N.obl (by decide) ?_ | with_reducible refine N.obl (flat_wi _ _ _) ?_ | with_reducible refine N.obl (flat_lim _ _) ?_ | with_reducible refine N.eq ?_ | with_reducible refine N.obl rfl ?_ | with_reducible refine N.obl ⟨by kernel_rfl, by kernel_rfl⟩ ?_ | with_reducible refine N.alt ?_ | with_reducible refine N.forkT ?_ | with_reducible refine N.forkF ?_ | refine N.lenS Tryz.underlying9 ?_ | refine N.idxS k x rfl hx ?_ | refine N.forkYes (decide_eq_true (by omega)) ?_ | refine N.forkNo (decide_eq_false (by omega)) ?_ | fail_if_success skip)
            rw [hF]
      · have hkt : Txt.scan (Txt.numT s.data.toList) 0 = some m := by
          rw [← hT, ← hm, List.take_of_length_le (by rw [ba_size]; omega)]
        have hF : Txt.numF s.data.toList = Txt.numV true (some m) := num_some hg hneg hkt
        have hmb := num_small2 hk (by omega : t.size ≤ 19) hm
        rw [hF]
        by_cases hr : m ≤ 9223372036854775808
        · repeat' (refine N.go ?_; first | with_reducible refine N.obl (by decide) ?_ | with_reducible refine N.obl (flat_wi _ _ _) ?_ | with_reducible refine N.obl (flat_lim _ _) ?_ | with_reducible refine N.eq ?_ | with_reducible refine N.obl rfl ?_ | with_reducible refine N.obl ⟨by kernel_rfl, by kernel_rfl⟩ ?_ | with_reducible refine N.alt ?_ | with_reducible refine N.forkT ?_ | with_reducible refine N.forkF ?_ | refine N.forkYes (decide_eq_true (by omega)) ?_ | refine N.forkNo (decide_eq_false (by omega)) ?_ | refine N.forkYes e45 ?_ | refine N.forkNo e45 ?_ | refine N.forkNo (by rw [e45]; rfl) ?_ | fail_if_success skip)
          exact numV_n hr
        · repeat' (refine N.go ?_; first | with_reducible refine N.obl (by decide) ?_ | with_reducible refine N.obl (flat_wi _ _ _) ?_ | with_reducible refine N.obl (flat_lim _ _) ?_ | with_reducible refine N.eq ?_ | with_reducible refine N.obl rfl ?_ | with_reducible refine N.obl ⟨by kernel_rfl, by kernel_rfl⟩ ?_ | with_reducible refine N.alt ?_ | with_reducible refine N.forkT ?_ | with_reducible refine N.forkF ?_ | refine N.forkYes (decide_eq_true (by omega)) ?_ | refine N.forkNo (decide_eq_false (by omega)) ?_ | refine N.forkYes e45 ?_ | refine N.forkNo e45 ?_ | refine N.forkNo (by rw [e45]; rfl) ?_ | fail_if_success skip)
          exact numV_n0 hr
  · have e45 : (((b.toNat : Nat) : Int) == 45) = false := by
      rw [beq_eq_false_iff_ne]
      intro e
      have h2 : (45 : UInt8).toNat = 45 := by decide
      exact h45 (UInt8.toNat_inj.1 (by omega))
    have hneg : decide (s.data.toList.head? = some 45) = false := by rw [hbh]; exact decide_eq_false fun e => h45 (Option.some.inj e)
    have hT : s.data.toList = Txt.numT s.data.toList := by
      unfold Txt.numT
      rw [hbh, if_neg (fun e => h45 (Option.some.inj e))]
    repeat' (refine N.go ?_; first | with_reducible refine N.obl (by decide) ?_ | with_reducible refine N.obl (flat_wi _ _ _) ?_ | with_reducible refine N.obl (flat_lim _ _) ?_ | with_reducible refine N.eq ?_ | with_reducible refine N.obl rfl ?_ | with_reducible refine N.obl ⟨by kernel_rfl, by kernel_rfl⟩ ?_ | with_reducible refine N.alt ?_ | with_reducible refine N.forkT ?_ | with_reducible refine N.forkF ?_ | refine N.lenS Tryz.underlying9 ?_ | refine N.idxS 0 b rfl hb ?_ | refine N.forkYes (decide_eq_true (by omega)) ?_ | refine N.forkYes e45 ?_ | refine N.forkNo e45 ?_ | fail_if_success skip)
    by_cases hte : s = ⟨#[]⟩
    · have hF : Txt.numF s.data.toList = (0, false) := num_bad (.inl (by rw [← hT, hte]))
      repeat' (refine N.go ?_; first | with_reducible refine N.obl (by decide) ?_ | with_reducible refine N.obl (flat_wi _ _ _) ?_ | with_reducible refine N.obl (flat_lim _ _) ?_ | with_reducible refine N.eq ?_ | with_reducible refine N.obl rfl ?_ | with_reducible refine N.obl ⟨by kernel_rfl, by kernel_rfl⟩ ?_ | with_reducible refine N.alt ?_ | with_reducible refine N.forkT ?_ | with_reducible refine N.forkF ?_ | refine N.lenS Tryz.underlying9 ?_ | refine N.bin _ (str_eql _ _ _ _) ?_ | refine N.bin _ (str_neq _ _ _ _) ?_ | refine N.forkYes e45 ?_ | refine N.forkNo e45 ?_ | refine N.forkNo (by rw [e45]; rfl) ?_ | refine N.forkYes (by rw [e45]; rfl) ?_ | refine N.forkYes (decide_eq_true hte) ?_ | fail_if_success skip)
      rw [hF]
    have htz : 0 < s.size := Nat.pos_of_ne_zero fun e => hte (ba_empty e)
    by_cases h19 : 19 < s.size
    · have hF : Txt.numF s.data.toList = (0, false) := num_bad (.inr (.inl (by rw [← hT, ba_size]; exact h19)))
      repeat' (refine N.go ?_; first | with_reducible refine N.obl (by decide) ?_ | with_reducible refine N.obl (flat_wi _ _ _) ?_ | with_reducible refine N.obl (flat_lim _ _) ?_ | with_reducible refine N.eq ?_ | with_reducible refine N.obl rfl ?_ | with_reducible refine N.obl ⟨by kernel_rfl, by kernel_rfl⟩ ?_ | with_reducible refine N.alt ?_ | with_reducible refine N.forkT ?_ | with_reducible refine N.forkF ?_ | refine N.lenS Tryz.underlying9 ?_ | refine N.bin _ (str_eql _ _ _ _) ?_ | refine N.bin _ (str_neq _ _ _ _) ?_ | refine N.forkYes e45 ?_ | refine N.forkNo e45 ?_ | refine N.forkNo (by rw [e45]; rfl) ?_ | refine N.forkYes (by rw [e45]; rfl) ?_ | refine N.forkNo (decide_eq_false hte) ?_ | refine N.forkYes (decide_eq_true (by omega)) ?_ | fail_if_success skip)
      rw [hF]
    obtain ⟨c, hc⟩ : ∃ c, s[0]? = some c := ⟨_, getElem?_pos s 0 htz⟩
    have hch : (Txt.numT s.data.toList).head? = some c := by rw [← hT, List.head?_eq_getElem?, ← ba_get]; exact hc
    by_cases h48 : c = 48
    · have e48 : (((c.toNat : Nat) : Int) == 48) = true := by rw [h48]; rfl
      by_cases hs1 : s = ⟨#[48]⟩
      · have hg : Txt.numBad s.data.toList = false := num_good hT hte h19 (.inr (by rw [hs1]))
        repeat' (refine N.go ?_; first | with_reducible refine N.obl (by decide) ?_ | with_reducible refine N.obl (flat_wi _ _ _) ?_ | with_reducible refine N.obl (flat_lim _ _) ?_ | with_reducible refine N.eq ?_ | with_reducible refine N.obl rfl ?_ | with_reducible refine N.obl ⟨by kernel_rfl, by kernel_rfl⟩ ?_ | with_reducible refine N.alt ?_ | with_reducible refine N.forkT ?_ | with_reducible refine N.forkF ?_ | refine N.lenS Tryz.underlying9 ?_ | refine N.bin _ (str_eql _ _ _ _) ?_ | refine N.bin _ (str_neq _ _ _ _) ?_ | refine N.forkYes e45 ?_ | refine N.forkNo e45 ?_ | refine N.forkNo (by rw [e45]; rfl) ?_ | refine N.forkYes (by rw [e45]; rfl) ?_ | refine N.forkNo (decide_eq_false hte) ?_ | refine N.forkNo (decide_eq_false (by omega)) ?_ | refine N.idxS 0 c rfl hc ?_ | refine N.forkYes e48 ?_ | refine N.forkNo (by rw [decide_eq_true hs1]; rfl) ?_ | fail_if_success skip)
        refine N.go ?_
        refine N.loop (α := Nat × Nat) (fun q => q.1 ≤ s.size ∧ Txt.scan (s.data.toList.take q.1) 0 = some q.2) (fun q => s.size - q.1) (fun q => [(38, .int .i64 (q.1 : Nat)), (6, .int .u64 (q.2 : Nat))]) (fun q => []) (0, 0) ⟨Nat.zero_le _, rfl⟩ ?_ ?_
        · repeat' (refine N.go ?_; first | with_reducible refine N.obl (by decide) ?_ | with_reducible refine N.obl (flat_wi _ _ _) ?_ | with_reducible refine N.obl (flat_lim _ _) ?_ | with_reducible refine N.eq ?_ | with_reducible refine N.obl rfl ?_ | with_reducible refine N.obl ⟨by kernel_rfl, by kernel_rfl⟩ ?_ | with_reducible refine N.alt ?_ | with_reducible refine N.forkT ?_ | with_reducible refine N.forkF ?_ | exact N.true | fail_if_success skip)
        rintro ⟨k, m⟩ ⟨hk, hm⟩
        have hk : k ≤ s.size := hk
        have hm : Txt.scan (s.data.toList.take k) 0 = some m := hm
        by_cases hkl : k < s.size
        · obtain ⟨x, hx⟩ : ∃ x, s[k]? = some x := ⟨_, getElem?_pos s k hkl⟩
          have hxx := num_step hx hm
          have hmb := num_small hk (by omega : s.size ≤ 19) hkl hm
          by_cases hd : 48 ≤ x.toNat ∧ x.toNat ≤ 57
          · rw [if_pos hd] at hxx
            have ev := dig_step hmb hd
            have ek : IntKind.i64.wrap ((k : Int) + 1) = ((k + 1 : Nat) : Int) := by rw [i64s _ (by omega) (by omega)]; rfl
            repeat' (refine N.go ?_; first | with_reducible refine N.obl (by decide) ?_ | with_reducible refine N.obl (flat_wi _ _ _) ?_ | with_reducible refine N.obl (flat_lim _ _) ?_ | with_reducible refine N.eq ?_ | with_reducible refine N.obl rfl ?_ | with_reducible refine N.obl ⟨by kernel_rfl, by kernel_rfl⟩ ?_ | with_reducible refine N.alt ?_ | with_reducible refine N.forkT ?_ | with_reducible refine N.forkF ?_ | refine N.lenS Tryz.underlying9 ?_ | refine N.idxS k x rfl hx ?_ | refine N.forkYes (decide_eq_true (by omega)) ?_ | refine N.forkNo (decide_eq_false (by omega)) ?_ | fail_if_success skip)
            refine N.go ?_
            refine N.next (α := Nat × Nat) (k + 1, 10 * m + (x.toNat - 48)) ⟨⟨hkl, hxx⟩, by show s.size - (k + 1) < s.size - k; omega⟩ ?_
            repeat' (refine N.go ?_; first | with_reducible refine N.obl (by decide) ?_ | with_reducible refine N.obl (flat_wi _ _ _) ?_ | with_reducible refine N.obl (flat_lim _ _) ?_ | with_reducible refine N.eq ?_ | with_reducible refine N.obl rfl ?_ | with_reducible refine N.obl ⟨by kernel_rfl, by kernel_rfl⟩ ?_ | with_reducible refine N.alt ?_ | with_reducible refine N.forkT ?_ | with_reducible refine N.forkF ?_ | exact N.true | refine N.obl (congrArg (Value.int .u64) ev) ?_ | refine N.obl (congrArg (Value.int .i64) ek) ?_ | fail_if_success skip)
          · have hF : Txt.numF s.data.toList = (0, false) := by
              rw [if_neg hd] at hxx
              exact num_none hg (by rw [← hT]; exact hxx)
            by_cases hd1 : x.toNat < 48
            · repeat' (refine N.go ?_; first | with_reducible refine N.obl (by decide) ?_ | with_reducible refine N.obl (flat_wi _ _ _) ?_ | with_reducible refine N.obl (flat_lim _ _) ?_ | with_reducible refine N.eq ?_ | with_reducible refine N.obl rfl ?_ | with_reducible refine N.obl ⟨by kernel_rfl, by kernel_rfl⟩ ?_ | with_reducible refine N.alt ?_ | with_reducible refine N.forkT ?_ | with_reducible refine N.forkF ?_ | refine N.lenS Tryz.underlying9 ?_ | refine N.idxS k x rfl hx ?_ | refine N.forkYes (decide_eq_true (by omega)) ?_ | refine N.forkNo (decide_eq_false (by omega)) ?_ | fail_if_success skip)
              rw [hF]
            · repeat' (refine N.go ?_; first | with_reducible refine N.obl (by decide) ?_ | with_reducible refine N.obl (flat_wi _ _ _) ?_ | with_reducible refine N.obl (flat_lim _ _) ?_ | with_reducible refine N.eq ?_ | with_reducible refine N.obl rfl ?_ | with_reducible refine N.obl ⟨by kernel_rfl, by kernel_rfl⟩ ?_ | with_reducible refine N.alt ?_ | with_reducible refine N.forkT ?_ | with_reducible refine N.forkF ?_ | refine N.lenS Tryz.underlying9 ?_ | refine N.idxS k x rfl hx ?_ | refine N.forkYes (decide_eq_true (by omega)) ?_ | refine N.forkNo (decide_eq_false (by omega)) ?_ | fail_if_success skip)
              rw [hF]
        · have hkt : Txt.scan (Txt.numT s.data.toList) 0 = some m := by
            rw [← hT, ← hm, List.take_of_length_le (by rw [ba_size]; omega)]
          have hF : Txt.numF s.data.toList = Txt.numV false (some m) := num_some hg hneg hkt
          have hmb := num_small2 hk (by omega : s.size ≤ 19) hm
          rw [hF]
          by_cases hr : m < 9223372036854775808
          · repeat' (refine N.go ?_; first | with_reducible refine N.obl (by decide) ?_ | with_reducible refine N.obl (flat_wi _ _ _) ?_ | with_reducible refine N.obl (flat_lim _ _) ?_ | with_reducible refine N.eq ?_ | with_reducible refine N.obl rfl ?_ | with_reducible refine N.obl ⟨by kernel_rfl, by kernel_rfl⟩ ?_ | with_reducible refine N.alt ?_ | with_reducible refine N.forkT ?_ | with_reducible refine N.forkF ?_ | refine N.forkYes (decide_eq_true (by omega)) ?_ | refine N.forkNo (decide_eq_false (by omega)) ?_ | refine N.forkYes e45 ?_ | refine N.forkNo e45 ?_ | refine N.forkNo (by rw [e45]; rfl) ?_ | refine N.forkYes (by rw [e45]; rfl) ?_ | fail_if_success skip)
            exact numV_p hr
          · repeat' (refine N.go ?_; first | with_reducible refine N.obl (by decide) ?_ | with_reducible refine N.obl (flat_wi _ _ _) ?_ | with_reducible refine N.obl (flat_lim _ _) ?_ | with_reducible refine N.eq ?_ | with_reducible refine N.obl rfl ?_ | with_reducible refine N.obl ⟨by kernel_rfl, by kernel_rfl⟩ ?_ | with_reducible refine N.alt ?_ | with_reducible refine N.forkT ?_ | with_reducible refine N.forkF ?_ | refine N.forkYes (decide_eq_true (by omega)) ?_ | refine N.forkNo (decide_eq_false (by omega)) ?_ | refine N.forkYes e45 ?_ | refine N.forkNo e45 ?_ | refine N.forkNo (by rw [e45]; rfl) ?_ | refine N.forkYes (by rw [e45]; rfl) ?_ | fail_if_success skip)
            exact numV_p0 hr
      · have hF : Txt.numF s.data.toList = (0, false) := num_bad (.inr (.inr ⟨by rw [hch, h48], fun e => hs1 (ba_list2 e)⟩))
        repeat' (refine N.go ?_; first | with_reducible refine N.obl (by decide) ?_ | with_reducible refine N.obl (flat_wi _ _ _) ?_ | with_reducible refine N.obl (flat_lim _ _) ?_ | with_reducible refine N.eq ?_ | with_reducible refine N.obl rfl ?_ | with_reducible refine N.obl ⟨by kernel_rfl, by kernel_rfl⟩ ?_ | with_reducible refine N.alt ?_ | with_reducible refine N.forkT ?_ | with_reducible refine N.forkF ?_ | refine N.lenS Tryz.underlying9 ?_ | refine N.bin _ (str_eql _ _ _ _) ?_ | refine N.bin _ (str_neq _ _ _ _) ?_ | refine N.forkYes e45 ?_ | refine N.forkNo e45 ?_ | refine N.forkNo (by rw [e45]; rfl) ?_ | refine N.forkYes (by rw [e45]; rfl) ?_ | refine N.forkNo (decide_eq_false hte) ?_ | refine N.forkNo (decide_eq_false (by omega)) ?_ | refine N.idxS 0 c rfl hc ?_ | refine N.forkYes e48 ?_ | refine N.forkYes (by rw [decide_eq_false hs1]; rfl) ?_ | fail_if_success skip)
        rw [hF]
    · have e48 : (((c.toNat : Nat) : Int) == 48) = false := by
        rw [beq_eq_false_iff_ne]
        intro e
        have h2 : (48 : UInt8).toNat = 48 := by decide
        exact h48 (UInt8.toNat_inj.1 (by omega))
      have hg : Txt.numBad s.data.toList = false := num_good hT hte h19 (.inl (by rw [hch]; exact fun e => h48 (Option.some.inj e)))
      repeat' (refine N.go ?_; first | with_reducible refine N.obl (by decide) ?_ | with_reducible refine N.obl (flat_wi _ _ _) ?_ | with_reducible refine N.obl (flat_lim _ _) ?_ | with_reducible refine N.eq ?_ | with_reducible refine N.obl rfl ?_ | with_reducible refine N.obl ⟨by kernel_rfl, by kernel_rfl⟩ ?_ | with_reducible refine N.alt ?_ | with_reducible refine N.forkT ?_ | with_reducible refine N.forkF ?_ | refine N.lenS Tryz.underlying9 ?_ | refine N.bin _ (str_eql _ _ _ _) ?_ | refine N.bin _ (str_neq _ _ _ _) ?_ | refine N.forkYes e45 ?_ | refine N.forkNo e45 ?_ | refine N.forkNo (by rw [e45]; rfl) ?_ | refine N.forkYes (by rw [e45]; rfl) ?_ | refine N.forkNo (decide_eq_false hte) ?_ | refine N.forkNo (decide_eq_false (by omega)) ?_ | refine N.idxS 0 c rfl hc ?_ | refine N.forkNo e48 ?_ | fail_if_success skip)
      refine N.go ?_
      refine N.loop (α := Nat × Nat) (fun q => q.1 ≤ s.size ∧ Txt.scan (s.data.toList.take q.1) 0 = some q.2) (fun q => s.size - q.1) (fun q => [(38, .int .i64 (q.1 : Nat)), (6, .int .u64 (q.2 : Nat))]) (fun q => []) (0, 0) ⟨Nat.zero_le _, rfl⟩ ?_ ?_
      · repeat' (refine N.go ?_; first | with_reducible refine N.obl (by decide) ?_ | with_reducible refine N.obl (flat_wi _ _ _) ?_ | with_reducible refine N.obl (flat_lim _ _) ?_ | with_reducible refine N.eq ?_ | with_reducible refine N.obl rfl ?_ | with_reducible refine N.obl ⟨by kernel_rfl, by kernel_rfl⟩ ?_ | with_reducible refine N.alt ?_ | with_reducible refine N.forkT ?_ | with_reducible refine N.forkF ?_ | exact N.true | fail_if_success skip)
      rintro ⟨k, m⟩ ⟨hk, hm⟩
      have hk : k ≤ s.size := hk
      have hm : Txt.scan (s.data.toList.take k) 0 = some m := hm
      by_cases hkl : k < s.size
      · obtain ⟨x, hx⟩ : ∃ x, s[k]? = some x := ⟨_, getElem?_pos s k hkl⟩
        have hxx := num_step hx hm
        have hmb := num_small hk (by omega : s.size ≤ 19) hkl hm
        by_cases hd : 48 ≤ x.toNat ∧ x.toNat ≤ 57
        · rw [if_pos hd] at hxx
          have ev := dig_step hmb hd
          have ek : IntKind.i64.wrap ((k : Int) + 1) = ((k + 1 : Nat) : Int) := by rw [i64s _ (by omega) (by omega)]; rfl
          repeat' (refine N.go ?_; first | with_reducible refine N.obl (by decide) ?_ | with_reducible refine N.obl (flat_wi _ _ _) ?_ | with_reducible refine N.obl (flat_lim _ _) ?_ | with_reducible refine N.eq ?_ | with_reducible refine N.obl rfl ?_ | with_reducible refine N.obl ⟨by kernel_rfl, by kernel_rfl⟩ ?_ | with_reducible refine N.alt ?_ | with_reducible refine N.forkT ?_ | with_reducible refine N.forkF ?_ | refine N.lenS Tryz.underlying9 ?_ | refine N.idxS k x rfl hx ?_ | refine N.forkYes (decide_eq_true (by omega)) ?_ | refine N.forkNo (decide_eq_false (by omega)) ?_ | fail_if_success skip)
          refine N.go ?_
          refine N.next (α := Nat × Nat) (k + 1, 10 * m + (x.toNat - 48)) ⟨⟨hkl, hxx⟩, by show s.size - (k + 1) < s.size - k; omega⟩ ?_
          repeat' (refine N.go ?_; first | with_reducible refine N.obl (by decide) ?_ | with_reducible refine N.obl (flat_wi _ _ _) ?_ | with_reducible refine N.obl (flat_lim _ _) ?_ | with_reducible refine N.eq ?_ | with_reducible refine N.obl rfl ?_ | with_reducible refine N.obl ⟨by kernel_rfl, by kernel_rfl⟩ ?_ | with_reducible refine N.alt ?_ | with_reducible refine N.forkT ?_ | with_reducible refine N.forkF ?_ | exact N.true | refine N.obl (congrArg (Value.int .u64) ev) ?_ | refine N.obl (congrArg (Value.int .i64) ek) ?_ | fail_if_success skip)
        · have hF : Txt.numF s.data.toList = (0, false) := by
            rw [if_neg hd] at hxx
            exact num_none hg (by rw [← hT]; exact hxx)
          by_cases hd1 : x.toNat < 48
          · repeat' (refine N.go ?_; first | with_reducible refine N.obl (by decide) ?_ | with_reducible refine N.obl (flat_wi _ _ _) ?_ | with_reducible refine N.obl (flat_lim _ _) ?_ | with_reducible refine N.eq ?_ | with_reducible refine N.obl rfl ?_ | with_reducible refine N.obl ⟨by kernel_rfl, by kernel_rfl⟩ ?_ | with_reducible refine N.alt ?_ | with_reducible refine N.forkT ?_ | with_reducible refine N.forkF ?_ | refine N.lenS Tryz.underlying9 ?_ | refine N.idxS k x rfl hx ?_ | refine N.forkYes (decide_eq_true (by omega)) ?_ | refine N.forkNo (decide_eq_false (by omega)) ?_ | fail_if_success skip)
            rw [hF]
          · repeat' (refine N.go ?_; first | with_reducible refine N.obl (by decide) ?_ | with_reducible refine N.obl (flat_wi _ _ _) ?_ | with_reducible refine N.obl (flat_lim _ _) ?_ | with_reducible refine N.eq ?_ | with_reducible refine N.obl rfl ?_ | with_reducible refine N.obl ⟨by kernel_rfl, by kernel_rfl⟩ ?_ | with_reducible refine N.alt ?_ | with_reducible refine N.forkT ?_ | with_reducible refine N.forkF ?_ | refine N.lenS Tryz.underlying9 ?_ | refine N.idxS k x rfl hx ?_ | refine N.forkYes (decide_eq_true (by omega)) ?_ | refine N.forkNo (decide_eq_false (by omega)) ?_ | fail_if_success skip)
            rw [hF]
      · have hkt : Txt.scan (Txt.numT s.data.toList) 0 = some m := by
          rw [← hT, ← hm, List.take_of_length_le (by rw [ba_size]; omega)]
        have hF : Txt.numF s.data.toList = Txt.numV false (some m) := num_some hg hneg hkt
        have hmb := num_small2 hk (by omega : s.size ≤ 19) hm
        rw [hF]
        by_cases hr : m < 9223372036854775808
        · repeat' (refine N.go ?_; first | with_reducible refine N.obl (by decide) ?_ | with_reducible refine N.obl (flat_wi _ _ _) ?_ | with_reducible refine N.obl (flat_lim _ _) ?_ | with_reducible refine N.eq ?_ | with_reducible refine N.obl rfl ?_ | with_reducible refine N.obl ⟨by kernel_rfl, by kernel_rfl⟩ ?_ | with_reducible refine N.alt ?_ | with_reducible refine N.forkT ?_ | with_reducible refine N.forkF ?_ | refine N.forkYes (decide_eq_true (by omega)) ?_ | refine N.forkNo (decide_eq_false (by omega)) ?_ | refine N.forkYes e45 ?_ | refine N.forkNo e45 ?_ | refine N.forkNo (by rw [e45]; rfl) ?_ | refine N.forkYes (by rw [e45]; rfl) ?_ | fail_if_success skip)
          exact numV_p hr
        · repeat' (refine N.go ?_; first | with_reducible refine N.obl (by decide) ?_ | with_reducible refine N.obl (flat_wi _ _ _) ?_ | with_reducible refine N.obl (flat_lim _ _) ?_ | with_reducible refine N.eq ?_ | with_reducible refine N.obl rfl ?_ | with_reducible refine N.obl ⟨by kernel_rfl, by kernel_rfl⟩ ?_ | with_reducible refine N.alt ?_ | with_reducible refine N.forkT ?_ | with_reducible refine N.forkF ?_ | refine N.forkYes (decide_eq_true (by omega)) ?_ | refine N.forkNo (decide_eq_false (by omega)) ?_ | refine N.forkYes e45 ?_ | refine N.forkNo e45 ?_ | refine N.forkNo (by rw [e45]; rfl) ?_ | refine N.forkYes (by rw [e45]; rfl) ?_ | fail_if_success skip)
          exact numV_p0 hr
end Go.Proofs.YtdnkeeedcnjofaaGreatDoor


/-
  Stretches that bear blocks of their own: how they are opened and closed; contracts of callees that take or make such.
-/
set_option linter.unusedVariables false
set_option linter.unusedSimpArgs false
namespace Go.Proofs.YtdnkeeedcnjofaaGreatDoor.Sx
open Go Go.RowKit

/-! ### Another description of the same blocks -/
structure NewC (X : Ctx) (ρ' : Nat → Nat × Nat) (h' : List (Option Chunk)) (w : World) (F : Nat → Prop) (T : Nat → Nat → Prop) (k : Nat) (d : Chunk) : Prop where
  blk : F (ρ' k).1
  cell : ∀ j, j < d.n → ∃ x, w.cell? ⟨(ρ' k).1, (ρ' k).2 + j, none⟩ = some x ∧ Den1 (Fil h') ρ' (d.f j) x
  own : d.own = true → ∀ j, j < d.n → w.frozen? ⟨(ρ' k).1, (ρ' k).2 + j, none⟩ = false
  inv : d.x.inv (ρ' k) (T k) w
  foot : ∀ b, T k b → F b ∧ (d.n = 0 ∨ b ≠ (ρ' k).1)

/-- The stretches J, told anew as the stretches A. -/
theorem HOK.redo {X : Ctx} {ρ ρ' : Nat → Nat × Nat} {h h' : List (Option Chunk)} {w : World} {S T : Nat → Nat → Prop} (H : HOK X ρ h w) (E : ExtOK X ρ h w S) (J A F : Nat → Prop)
    (hF : ∀ b, F b → ∃ (j : Nat) (c : Chunk), J j ∧ h[j]? = some (some c) ∧ ((c.own = true ∧ b = (ρ j).1) ∨ S j b)) (hmay : ∀ b, F b → May X b)
    (hbase : ∀ i, i < X.n0 → Fil h' i ∧ ρ' i = ρ i)
    (hold : ∀ (k : Nat) (d : Chunk), h'[k]? = some (some d) → ¬ A k → ¬ J k ∧ ρ' k = ρ k ∧ h[k]? = some (some d) ∧ ∀ j, j < d.n → ∀ x, Den1 (Fil h) ρ (d.f j) x → Den1 (Fil h') ρ' (d.f j) x)
    (hnew : ∀ (k : Nat) (d : Chunk), h'[k]? = some (some d) → A k → NewC X ρ' h' w F T k d)
    (hsep : ∀ (k : Nat) (d : Chunk) (l : Nat) (e : Chunk), h'[k]? = some (some d) → A k → h'[l]? = some (some e) → A l → k ≠ l → (d.own = true → (ρ' k).1 ≠ (ρ' l).1) ∧ ∀ b, T k b → (ρ' l).1 ≠ b ∧ ¬ T l b) : HOK X ρ' h' w := by
  have outF : ∀ (k : Nat) (e : Chunk), h[k]? = some (some e) → ¬ J k → ¬ F (ρ k).1 := fun k e hk hJ hb => by
    obtain ⟨j, c, hj, hc, hb⟩ := hF _ hb
    have hne : j ≠ k := fun e => hJ (e ▸ hj)
    rcases hb with ⟨ho, hb⟩ | hb
    · exact H.sep _ _ _ _ hc ho hk hne hb.symm
    · exact (E.apart _ _ _ _ _ hc hb hk hne.symm).1 rfl
  have outS : ∀ (k : Nat) (e : Chunk) (b : Nat), h[k]? = some (some e) → ¬ J k → S k b → ¬ F b := fun k e b hk hJ hS hb => by
    obtain ⟨j, c, hj, hc, hb⟩ := hF _ hb
    have hne : j ≠ k := fun e => hJ (e ▸ hj)
    obtain ⟨a1, a2⟩ := E.apart _ _ b _ _ hk hS hc hne
    rcases hb with ⟨ho, hb⟩ | hb
    · exact a1 hb.symm
    · exact a2 hb
  have inF : ∀ b, F b → b < w.heap.size := fun b hb => by
    obtain ⟨j, c, hj, hc, hb⟩ := hF _ hb
    rcases hb with ⟨ho, rfl⟩ | hb
    · exact H.lt _ _ hc
    · exact (E.mine _ _ _ hc hb).2.1
  refine ⟨H.evo, fun i hi => ⟨(hbase i hi).1, (hbase i hi).2.trans (H.base i hi).2⟩, fun k d hk => ?_, fun k d hk j hj => ?_, fun k d hk ho j hj => ?_, fun k d l e hk ho hl hne => ?_, ?_⟩
  · by_cases hA : A k
    · exact inF _ (hnew k d hk hA).blk
    · obtain ⟨_, hρ, hk', _⟩ := hold k d hk hA
      rw [hρ]; exact H.lt _ _ hk'
  · by_cases hA : A k
    · exact (hnew k d hk hA).cell j hj
    · obtain ⟨_, hρ, hk', hd⟩ := hold k d hk hA
      rw [hρ]
      obtain ⟨x, hx, hx2⟩ := H.cell _ _ hk' j hj
      exact ⟨x, hx, hd j hj x hx2⟩
  · by_cases hA : A k
    · refine ⟨(hnew k d hk hA).own ho j hj, ?_⟩
      rcases hmay _ (hnew k d hk hA).blk with h1 | h1
      · exact .inl h1
      · exact .inr (h1.2 _)
    · obtain ⟨_, hρ, hk', _⟩ := hold k d hk hA
      rw [hρ]; exact H.own _ _ hk' ho j hj
  · by_cases hA : A k <;> by_cases hB : A l
    · exact (hsep k d l e hk hA hl hB hne).1 ho
    · obtain ⟨hJ, hρ, hl', _⟩ := hold l e hl hB
      rw [hρ]
      exact fun e' => outF l e hl' hJ (e' ▸ (hnew k d hk hA).blk)
    · obtain ⟨hJ, hρ, hk', _⟩ := hold k d hk hA
      rw [hρ]
      exact fun e' => outF k d hk' hJ (e' ▸ (hnew l e hl hB).blk)
    · obtain ⟨hJ, hρ, hk', _⟩ := hold k d hk hA
      obtain ⟨hJ2, hρ2, hl', _⟩ := hold l e hl hB
      rw [hρ, hρ2]
      exact H.sep _ _ _ _ hk' ho hl' hne
  · refine ⟨fun k b => (A k ∧ T k b) ∨ (¬ A k ∧ S k b), fun k d hk => ?_, fun k d b hk hS => ?_, fun k d b l e hk hS hl hne => ?_⟩
    · by_cases hA : A k
      · have : (fun b => (A k ∧ T k b) ∨ (¬ A k ∧ S k b)) = T k := by
          funext b; exact propext ⟨fun h => by rcases h with h | h; exact h.2; exact absurd hA h.1, fun h => .inl ⟨hA, h⟩⟩
        rw [this]; exact (hnew k d hk hA).inv
      · have : (fun b => (A k ∧ T k b) ∨ (¬ A k ∧ S k b)) = S k := by
          funext b; exact propext ⟨fun h => by rcases h with h | h; exact absurd h.1 hA; exact h.2, fun h => .inr ⟨hA, h⟩⟩
        rw [this]
        obtain ⟨_, hρ, hk', _⟩ := hold k d hk hA
        rw [hρ]; exact E.inv k d hk'
    · rcases hS with ⟨hA, hT⟩ | ⟨hA, hS⟩
      · obtain ⟨h1, h2⟩ := (hnew k d hk hA).foot b hT
        exact ⟨h2, inF b h1, hmay b h1⟩
      · obtain ⟨_, hρ, hk', _⟩ := hold k d hk hA
        rw [hρ]; exact E.mine k d b hk' hS
    · rcases hS with ⟨hA, hT⟩ | ⟨hA, hS⟩
      · by_cases hB : A l
        · obtain ⟨a1, a2⟩ := (hsep k d l e hk hA hl hB (Ne.symm hne)).2 b hT
          exact ⟨a1, fun h => by rcases h with h | h; exact a2 h.2; exact h.1 hB⟩
        · obtain ⟨hJ, hρ, hl', _⟩ := hold l e hl hB
          have hFb := ((hnew k d hk hA).foot b hT).1
          refine ⟨by rw [hρ]; exact fun e' => outF l e hl' hJ (e' ▸ hFb), fun h => ?_⟩
          rcases h with h | h
          · exact hB h.1
          · exact outS l e b hl' hJ h.2 hFb
      · obtain ⟨hJ, hρ, hk', _⟩ := hold k d hk hA
        by_cases hB : A l
        · refine ⟨fun e' => outS k d b hk' hJ hS (e' ▸ (hnew l e hl hB).blk), fun h => ?_⟩
          rcases h with h | h
          · exact outS k d b hk' hJ hS ((hnew l e hl hB).foot b h.2).1
          · exact h.1 hB
        · obtain ⟨_, hρ2, hl', _⟩ := hold l e hl hB
          obtain ⟨a1, a2⟩ := E.apart k d b l e hk' hS hl' hne
          refine ⟨by rw [hρ2]; exact a1, fun h => ?_⟩
          rcases h with h | h
          · exact hB h.1
          · exact a2 h.2

/-! ### What a callee may count on -/
structure Tidy (X : Ctx) (ss : List Piece) : Prop where
  n0 : X.n0 = ss.length
  m : ∀ b j, X.M ⟨b, j, none⟩ → (∃ k, k < X.n0 ∧ b = (X.ρ0 k).1) ∨ May X b
  x : ∀ (k : Nat) (s : Piece), ss[k]? = some s → s.e.x ≠ Ext.none → Selfish s.e.x → May X (X.ρ0 k).1
theorem Tidy.may {X : Ctx} {ss : List Piece} {ρ : Nat → Nat × Nat} {h : List (Option Chunk)} {w : World} (T : Tidy X ss) (H : HOK X ρ h w) {j : Nat} {c : Chunk} (hj : h[j]? = some (some c)) (ho : c.own = true) (hn : 0 < c.n) (hl : ss.length ≤ j) : May X (ρ j).1 := by
  rcases (H.own j c hj ho 0 hn).2 with h1 | h1
  · exact .inl h1
  · rcases T.m _ _ h1 with ⟨k, hk, hb⟩ | h2
    · obtain ⟨⟨d, hd⟩, hρ⟩ := H.base k hk
      have := H.sep j c k d hj ho hd (by have := T.n0; omega)
      rw [hρ] at this
      exact absurd hb this
    · exact h2
theorem Tidy.mayX {X : Ctx} {ss : List Piece} {ρ : Nat → Nat × Nat} {h : List (Option Chunk)} {w : World} (T : Tidy X ss) (H : HOK X ρ h w) {k : Nat} {s : Piece} (hk : ss[k]? = some s) (hx : s.e.x ≠ Ext.none) (hs : Selfish s.e.x) : May X (ρ k).1 := by
  have hl := (List.getElem?_eq_some_iff.1 hk).1
  rw [(H.base k (by rw [T.n0]; exact hl)).2]
  exact T.x k s hk hx hs

/-- The end of a callee, told anew. -/
def EndN (ss : List Piece) (h : List (Option Chunk)) (v : Value) (K : Value → List (Option Chunk) → Prop) : Prop :=
  ∀ X ρ w x, Tidy X ss → HOK X ρ h w → Den (Fil h) ρ v x → ∃ v' h' ρ', HOK X ρ' h' w ∧ Den (Fil h') ρ' v' x ∧ K v' h'
theorem N.endSame {ss : List Piece} {h : List (Option Chunk)} {v : Value} {K : Value → List (Option Chunk) → Prop} (k : K v h) : N (EndN ss h v K) := N.mk fun X ρ w x _ H hd => ⟨v, h, ρ, H, hd, k⟩
/-- What a callee begins with, told anew. -/
def Opens (ss : List Piece) {B : Type} (okB : B → Prop) (h1 : B → List (Option Chunk)) : Prop :=
  ∀ X ρ w, Tidy X ss → HOK X ρ (partH ss) w → ∃ β, okB β ∧ ∃ ρ', AgreeOn (Fil (partH ss)) ρ ρ' ∧ (∀ i, Fil (partH ss) i → Fil (h1 β) i) ∧ HOK X ρ' (h1 β) w
theorem Opens.same {ss : List Piece} : Opens ss (fun _ : Unit => True) (fun _ => partH ss) := fun X ρ w _ H => ⟨(), trivial, ρ, AgreeOn.refl _ _, fun _ h => h, H⟩
def PartsX : List Piece → Prop
  | [] => True
  | s :: r => (s.e.x = Ext.none ∨ (s.e.own = true ∧ s.e.x = s.c.x)) ∧ PartsX r
theorem PartsX.at : ∀ {ss : List Piece}, PartsX ss → ∀ s ∈ ss, PieceX s
  | t :: r, hp, s, hs => by
    rcases List.mem_cons.1 hs with rfl | hs
    · exact hp.1
    · exact PartsX.at hp.2 s hs
def PostX (h : List (Option Chunk)) : List Piece → Nat → Prop
  | [], _ => True
  | s :: r, k => (s.d.x = Ext.none ∨ ∃ c, h[k]? = some (some c) ∧ s.d.x = c.x) ∧ PostX h r (k + 1)
theorem PostX.at {h : List (Option Chunk)} : ∀ {ss : List Piece} {k0 : Nat}, PostX h ss k0 → ∀ (l : Nat) (s : Piece), ss[l]? = some s → s.d.x = Ext.none ∨ ∃ c, h[k0 + l]? = some (some c) ∧ s.d.x = c.x
  | a :: r, k0, hp, 0, s, hl => by simp at hl; subst hl; exact hp.1
  | a :: r, k0, hp, l + 1, s, hl => by
    rw [show k0 + (l + 1) = k0 + 1 + l from by omega]
    exact PostX.at hp.2 l s (by simpa using hl)
def MadeX (h : List (Option Chunk)) : List Fresh → Prop
  | [] => True
  | n :: r => (h[n.i]? = some none ∧ n.d.own = true ∧ (0 < n.d.n ∨ Selfish n.d.x) ∧ ∀ m ∈ r, n.i ≠ m.i ∧ n.k ≠ m.k) ∧ MadeX h r
theorem MadeX.at {h : List (Option Chunk)} : ∀ {ns : List Fresh}, MadeX h ns → ∀ n ∈ ns, h[n.i]? = some none ∧ n.d.own = true ∧ (0 < n.d.n ∨ Selfish n.d.x)
  | t :: r, hp, s, hs => by
    rcases List.mem_cons.1 hs with rfl | hs
    · exact ⟨hp.1.1, hp.1.2.1, hp.1.2.2.1⟩
    · exact MadeX.at hp.2 s hs
theorem MadeX.ne {h : List (Option Chunk)} : ∀ {ns : List Fresh}, MadeX h ns → ∀ n ∈ ns, ∀ m ∈ ns, (n.i = m.i ∨ n.k = m.k) → n = m
  | t :: r, hp, n, hn, m, hm, he => by
    rcases List.mem_cons.1 hn with h1 | h1 <;> rcases List.mem_cons.1 hm with h2 | h2
    · rw [h1, h2]
    · have := hp.1.2.2.2 m h2; rw [h1] at he; omega
    · have := hp.1.2.2.2 n h1; rw [h2] at he; omega
    · exact MadeX.ne hp.2 n h1 m h2 he
def MadeP (h : List (Option Chunk)) : List Fresh → Prop
  | [] => True
  | n :: r => (n.d.x = Ext.none ∨ ∃ c, h[n.k]? = some (some c) ∧ n.d.x = c.x) ∧ MadeP h r
theorem MadeP.at {h : List (Option Chunk)} : ∀ {ns : List Fresh}, MadeP h ns → ∀ n ∈ ns, n.d.x = Ext.none ∨ ∃ c, h[n.k]? = some (some c) ∧ n.d.x = c.x
  | t :: r, hp, s, hs => by
    rcases List.mem_cons.1 hs with rfl | hs
    · exact hp.1
    · exact MadeP.at hp.2 s hs

theorem all2_up {F F' : Nat → Prop} {ρ ρ' : Nat → Nat × Nat} (ha : AgreeOn F ρ ρ') (hF : ∀ i, F i → F' i) : ∀ {vs xs : List Value}, All2 (Den F ρ) vs xs → All2 (Den F' ρ') vs xs
  | [], [], _ => trivial
  | [], _ :: _, h => h.elim
  | _ :: _, [], h => h.elim
  | _ :: _, _ :: _, h => ⟨h.1.more ha hF, all2_up ha hF h.2⟩
section
variable {P : Program} {G : Tys}
theorem sub_tidy {ss : List Piece} {ρ : Nat → Nat × Nat} {w : World} {S : Nat → Nat → Prop} {h : List (Option Chunk)} {X : Ctx} (hI : ∀ s ∈ ss, h[s.i]? = some (some s.c)) (hex : PartsX ss) (E : ExtOK X ρ h w S) : Tidy ⟨w, subM ρ S ss, ss.length, fun k => ρ (subσ ss k)⟩ ss := by
  have hσ : ∀ k s, ss[k]? = some s → subσ ss k = s.i := fun k s hk => by show (match ss[k]? with | some s => s.i | none => 0) = s.i; rw [hk]
  refine ⟨rfl, fun b j hm => ?_, fun k s hk hx hs => ?_⟩
  · rcases hm with ⟨_, s, hs, _, hb, _⟩ | ⟨s, hs, ho, hb⟩
    · obtain ⟨l, hl, hlt⟩ := List.getElem_of_mem hs
      have hl' : ss[l]? = some s := by rw [List.getElem?_eq_getElem hl, hlt]
      exact .inl ⟨l, hl, by show b = (ρ (subσ ss l)).1; rw [hσ l s hl']; exact hb⟩
    · exact .inr (.inr ⟨.inr ⟨s, hs, ho, hb⟩, fun j => .inr ⟨s, hs, ho, hb⟩⟩)
  · have hmem := List.mem_of_getElem? hk
    rcases hex.at s hmem with e | ⟨ho, e⟩
    · exact absurd e hx
    · have hb : S s.i (ρ s.i).1 := by
        rw [e] at hs
        exact hs _ _ _ (E.inv _ _ (hI s hmem))
      show May _ (ρ (subσ ss k)).1
      rw [hσ k s hk]
      exact .inr ⟨.inr ⟨s, hmem, ho, hb⟩, fun j => .inr ⟨s, hmem, ho, hb⟩⟩
/-- A callee's contract, one outcome. -/
theorem call_res {g : FuncId} {fn : Func} {cd : Code} {h : List (Option Chunk)} {vs : List Value} {V : Value} {B : Type} (okB : B → Prop) (h1 : B → List (Option Chunk)) (ss : List Piece) (ns : List Fresh) (vs' : List Value)
    (hG : TysOK P G) (hm : P.follows .mixedOrders = true) (hf : P.funcs[g]? = some fn) (hb : fn.body = some cd) (hr : ∀ xs w, (callFunc g xs).run P w = .ok (.enter g xs) w)
    (hin : PartsIn h ss) (hre : PartsRe (partX ss 0) ss) (hap : Apart ss) (hex : PartsX ss) (hmi : MadeX h ns) (hvs : All2 (Re2 (partX ss 0)) vs vs') (hop : Opens ss okB h1)
    (hwp : ∀ β, okB β → initK vs' fn.ntmps fun t => wpC P G ss.length cd (bodyQ P G fn fun v st => N (EndN ss st.h v fun v' h' => N (Obl (Re (partX ss 0 ++ madeX ns) V v') (N (Obl (PostS (partX ss 0 ++ madeX ns) h' ss 0) (N (Obl (PostN (partX ss 0 ++ madeX ns) h' ss.length ns) (N (Obl (PostX h' ss 0 ∧ MadeP h' ns) (N True)))))))))) ⟨t, h1 β⟩) :
    CallOK P g vs h V (partM ss ++ madeM ns) (partR ss) := fun h₂ hrd hms X ρ w xs H hx => by
  have hI : ∀ s ∈ ss, h₂[s.i]? = some (some s.c) := fun s hs => by
    cases e : s.e.own with
    | true => exact (hms (s.i, s.d) (List.mem_append_left _ (partM_mem.2 ⟨s, hs, e, rfl⟩))).trans (hin.at s hs)
    | false => exact (hrd s.i (partR_mem ⟨s, hs, e, rfl⟩)).trans (hin.at s hs)
  have hNw : ∀ n ∈ ns, h₂[n.i]? = some none := fun n hn => (hms (n.i, n.d) (List.mem_append_right _ (madeM_mem.2 ⟨n, hn, rfl⟩))).trans (hmi.at n hn).1
  obtain ⟨S, E⟩ := H.ext
  have T := sub_tidy hI hex E
  obtain ⟨H0, hargs⟩ := sub_start ss vs' hI hre hap hex.at hvs H E hx
  obtain ⟨β, hβ, ρ', hag, hfil, H1⟩ := hop _ _ w T H0
  have hargs' : All2 (Den (Fil (h1 β)) ρ') vs' xs := all2_up hag hfil hargs
  refine .inr ⟨hr _ w, ?_⟩
  refine (calls_sx (X := ⟨w, subM ρ S ss, ss.length, fun k => ρ (subσ ss k)⟩) (args := ⟨xs⟩) hG hm hf hb H1 hargs' (hwp β hβ)).mono ?_
  rintro e w' ⟨ρ1, v, st, x, rfl, H2, hdx, hq⟩
  obtain ⟨v', h', ρ2, H3, hd3, hq⟩ := N.out hq _ _ _ _ T H2 hdx
  have q1 : Re (partX ss 0 ++ madeX ns) V v' ∧ N _ := N.out hq
  have q2 : PostS (partX ss 0 ++ madeX ns) h' ss 0 ∧ N _ := N.out q1.2
  have q3 : PostN (partX ss 0 ++ madeX ns) h' ss.length ns ∧ N _ := N.out q2.2
  have q4 : (PostX h' ss 0 ∧ MadeP h' ns) ∧ N True := N.out q3.2
  exact ⟨x, rfl, sub_glue ss ns hI hNw hre hap (fun n hn => (hmi.at n hn).2) (fun n hn m hm => hmi.ne n hn m hm) H E H3 hd3 q1.1 q2.1 q3.1 (fun l s hl _ => by have := q4.1.1.at l s hl; rwa [Nat.zero_add] at this) q4.1.2.at⟩
/-- A callee's contract, many outcomes. -/
theorem call_resall {α : Type} {g : FuncId} {fn : Func} {cd : Code} {h : List (Option Chunk)} {vs : List Value} {B : Type} (okB : B → Prop) (h1 : B → List (Option Chunk)) (ok : α → Prop) (V : α → Value) (ss : List Piece) (dd : α → List Chunk) (ns : α → List Fresh) (vs' : List Value)
    (hG : TysOK P G) (hm : P.follows .mixedOrders = true) (hf : P.funcs[g]? = some fn) (hb : fn.body = some cd) (hr : ∀ xs w, (callFunc g xs).run P w = .ok (.enter g xs) w)
    (hin : PartsIn h ss) (hre0 : PartsRe (partX ss 0) ss) (hre : ∀ κ, ok κ → PartsRe (partX ss 0) (setD ss (dd κ))) (hap : Apart ss) (hex : PartsX ss) (hmi : ∀ κ, ok κ → MadeX h (ns κ)) (hvs : All2 (Re2 (partX ss 0)) vs vs') (hop : Opens ss okB h1)
    (hwp : ∀ β, okB β → initK vs' fn.ntmps fun t => wpC P G ss.length cd (bodyQ P G fn fun v st => N (EndN ss st.h v fun v' h' => N (SomeN fun κ => ok κ ∧ N (Obl (Re (partX ss 0 ++ madeX (ns κ)) (V κ) v') (N (Obl (PostS (partX ss 0 ++ madeX (ns κ)) h' (setD ss (dd κ)) 0) (N (Obl (PostN (partX ss 0 ++ madeX (ns κ)) h' ss.length (ns κ)) (N (Obl (PostX h' (setD ss (dd κ)) 0 ∧ MadeP h' (ns κ)) (N True))))))))))) ⟨t, h1 β⟩) :
    CallAll P g vs h fun v ms => ∃ κ, ok κ ∧ v = V κ ∧ ms = partM (setD ss (dd κ)) ++ madeM (ns κ) := fun X ρ w xs H hx => by
  obtain ⟨S, E⟩ := H.ext
  have T := sub_tidy (fun s hs => hin.at s hs) hex E
  obtain ⟨H0, hargs⟩ := sub_start ss vs' (fun s hs => hin.at s hs) hre0 hap hex.at hvs H E hx
  obtain ⟨β, hβ, ρ', hag, hfil, H1⟩ := hop _ _ w T H0
  have hargs' : All2 (Den (Fil (h1 β)) ρ') vs' xs := all2_up hag hfil hargs
  refine .inr ⟨hr _ w, ?_⟩
  refine (calls_sx (X := ⟨w, subM ρ S ss, ss.length, fun k => ρ (subσ ss k)⟩) (args := ⟨xs⟩) hG hm hf hb H1 hargs' (hwp β hβ)).mono ?_
  rintro e w' ⟨ρ1, v, st, x, rfl, H2, hdx, hq⟩
  obtain ⟨v', h', ρ2, H3, hd3, hq⟩ := N.out hq _ _ _ _ T H2 hdx
  obtain ⟨κ, hok, hq⟩ := N.out hq
  have q1 : Re (partX ss 0 ++ madeX (ns κ)) (V κ) v' ∧ N _ := N.out hq
  have q2 : PostS (partX ss 0 ++ madeX (ns κ)) h' (setD ss (dd κ)) 0 ∧ N _ := N.out q1.2
  have q3 : PostN (partX ss 0 ++ madeX (ns κ)) h' ss.length (ns κ) ∧ N _ := N.out q2.2
  have q4 : (PostX h' (setD ss (dd κ)) 0 ∧ MadeP h' (ns κ)) ∧ N True := N.out q3.2
  obtain ⟨ρ', ha, hh, hd⟩ := sub_glue (h₂ := h) (hE := h') (V := V κ) (setD ss (dd κ)) (ns κ) (fun s hs => by
    obtain ⟨t, ht, e1, e2, _⟩ := setD_mem hs
    rw [← e1, ← e2]; exact hin.at t ht) (fun n hn => ((hmi κ hok).at n hn).1) (by rw [setD_X]; exact hre κ hok) (setD_apart hap) (fun n hn => ((hmi κ hok).at n hn).2) (fun n hn m hm => (hmi κ hok).ne n hn m hm) H E
    (by rw [setD_M, setD_σ, setD_len]; exact H3) hd3 (by rw [setD_X]; exact q1.1) (by rw [setD_X]; exact q2.1) (by rw [setD_X, setD_len]; exact q3.1) (fun l s hl _ => by have := q4.1.1.at l s hl; rwa [Nat.zero_add] at this) q4.1.2.at
  exact ⟨x, rfl, V κ, _, ρ', ⟨κ, hok, rfl, rfl⟩, ha, hh, hd⟩
end
end Go.Proofs.YtdnkeeedcnjofaaGreatDoor.Sx


/-
  All memory that was there at the beginning, kept as one chunk: contracts of the library that want a laid table, a variable.
-/
set_option linter.unusedVariables false
set_option linter.unusedSimpArgs false
namespace Go.Proofs.YtdnkeeedcnjofaaGreatDoor.Sx
open Go Go.RowKit

structure OldOK (W : World) (p : Nat × Nat) (S : Nat → Prop) (w : World) : Prop where
  at_ : p.1 < W.heap.size
  dom : ∀ b, S b ↔ b < W.heap.size
  size : W.heap.size ≤ w.heap.size
  old : ∀ b, b < W.heap.size → w.heap[b]? = W.heap[b]?
theorem old_lt {w w' : World} {b : Nat} (hl : b < w.heap.size) (h : w'.heap[b]? = w.heap[b]?) : b < w'.heap.size := by
  have : w.heap[b]? = some (w.heap[b]'hl) := Array.getElem?_eq_getElem hl
  rw [this] at h
  exact (Array.getElem?_eq_some_iff.1 h).1
abbrev oldX (W : World) : Ext where
  inv := fun p S w => OldOK W p S w
  keep := fun {p S w w'} h hb => ⟨h.at_, h.dom, by
      have h1 := h.at_
      have h2 := hb (W.heap.size - 1) ((h.dom _).2 (by omega))
      have h3 := old_lt (b := W.heap.size - 1) (w := w) (by have := h.size; omega) h2
      omega, fun b hl => (hb b ((h.dom b).2 hl)).trans (h.old b hl)⟩
/-- All old memory. -/
abbrev oldC (W : World) : Chunk := @Chunk.mk (oldX W) true 0 []
/-- What is still so in a world that has kept all old memory. -/
def Kept (W w : World) : Prop := W.heap.size ≤ w.heap.size ∧ ∀ b, b < W.heap.size → w.heap[b]? = W.heap[b]?
theorem Kept.cell {W w : World} (h : Kept W w) {b o : Nat} {v : Value} (hv : W.cell? ⟨b, o, none⟩ = some v) : w.cell? ⟨b, o, none⟩ = some v := by
  have hl : b < W.heap.size := World.block_lt_of_cell? _ _ hv
  rw [← hv]
  simp only [World.cell?, h.2 _ hl]
theorem Kept.below {W w w' : World} (h : Kept W w) (hb : Below w.heap.size w w') : Kept W w' := ⟨Nat.le_trans h.1 hb.size, fun b hl => (hb.block b (Nat.lt_of_lt_of_le hl h.1)).trans (h.2 b hl)⟩
section
variable {P : Program} {G : Tys}
theorem old_kept {X : Ctx} {ρ : Nat → Nat × Nat} {h : List (Option Chunk)} {w : World} {i : Nat} {W : World} (H : HOK X ρ h w) (hi : h[i]? = some (some (oldC W))) : Kept W w := by
  obtain ⟨S, E⟩ := H.ext
  have M : OldOK W (ρ i) (S i) w := E.inv i _ hi
  exact ⟨M.size, M.old⟩
/-- A callee of plain values that leans on old memory. -/
theorem call_oldP {g : FuncId} {vs : List Value} {h : List (Option Chunk)} {v : Value} (i : Nat) (W : World) (hi : h[i]? = some (some (oldC W))) (hp : vs.all plain2 = true) (hv : plain3 v = true) (hr : ∀ xs w, (callFunc g xs).run P w = .ok (.enter g xs) w)
    (hc : ∀ w, Kept W w → Calls P g ⟨vs⟩ w fun e w' => e = .returned v ∧ Below w.heap.size w w') : CallOK P g vs h v [] [i] :=
  fun h₂ hrh _ X ρ w xs H hx => by
    obtain rfl := den_all_eq hp hx
    refine .inr ⟨hr _ w, (hc w (old_kept H ((hrh i (List.mem_singleton.2 rfl)).trans hi))).mono ?_⟩
    rintro e w' ⟨rfl, hb⟩
    exact ⟨v, rfl, ρ, AgreeOn.refl _ _, H.frame hb, fun r _ => den_plain3 hv r⟩
/-- A callee that answers one of many plain values. -/
theorem call_oldA {g : FuncId} {vs : List Value} {h : List (Option Chunk)} {R : Value → Prop} (i : Nat) (W : World) (hi : h[i]? = some (some (oldC W))) (hp : vs.all plain2 = true) (hr : ∀ xs w, (callFunc g xs).run P w = .ok (.enter g xs) w)
    (hc : ∀ w, Kept W w → Calls P g ⟨vs⟩ w fun e w' => ∃ v, R v ∧ plain3 v = true ∧ e = .returned v ∧ Below w.heap.size w w') : CallAll P g vs h fun v ms => R v ∧ ms = [] := fun X ρ w xs H hx => by
  obtain rfl := den_all_eq hp hx
  refine .inr ⟨hr _ w, (hc w (old_kept H hi)).mono ?_⟩
  rintro e w' ⟨v, hR, hv, rfl, hb⟩
  exact ⟨v, rfl, v, [], ρ, ⟨hR, rfl⟩, AgreeOn.refl _ _, H.frame hb, fun r _ => den_plain3 hv r⟩
/-- A callee that makes one new row of plain cells. -/
theorem call_oldS {g : FuncId} {vs : List Value} {h : List (Option Chunk)} {n : Nat} (ty : TypeId) (cs : List Value) (i K : Nat) (W : World) (hi : h[i]? = some (some (oldC W))) (hK : h[K]? = some none) (hp : vs.all plain2 = true) (hn : cs.length = n) (hcs : ∀ c ∈ cs, plain1 c = true) (hr : ∀ xs w, (callFunc g xs).run P w = .ok (.enter g xs) w)
    (hc : ∀ w, Kept W w → Calls P g ⟨vs⟩ w fun e w' => e = .returned (.slice (some ⟨w.heap.size, 0, none⟩) n n) ∧ w' = w.alloc (.cells ⟨cs⟩ ty)) :
    CallOK P g vs h (.slice (some ⟨K, 0, some 0⟩) n n) [(K, ⟨true, n, [(0, n, .agg ⟨cs⟩)]⟩)] [i] :=
  fun h₂ hrh hms X ρ w xs H hx => by
    obtain rfl := den_all_eq hp hx
    have h2 : h₂[K]? = some none := (hms (K, ⟨true, n, [(0, n, .agg ⟨cs⟩)]⟩) (List.mem_singleton.2 rfl)).trans hK
    refine .inr ⟨hr _ w, (hc w (old_kept H ((hrh i (List.mem_singleton.2 rfl)).trans hi))).mono ?_⟩
    rintro e w' ⟨rfl, rfl⟩
    obtain ⟨ρ', ha, hρ, hH⟩ := H.alloc (c := ⟨true, n, [(0, n, .agg ⟨cs⟩)]⟩) (xs := ⟨cs⟩) (ty := ty) h2 (by show n = cs.length; exact hn.symm) (fun j x hj => by
      have hj' : cs[j]? = some x := by simpa using hj
      have hl : j < cs.length := (List.getElem?_eq_some_iff.1 hj').1
      have e1 : (Chunk.f ⟨true, n, [(0, n, .agg ⟨cs⟩)]⟩ j) = x := by
        show cellOf [(0, n, .agg ⟨cs⟩)] j = x
        rw [cellOf_cons, if_pos (by omega), Nat.sub_zero]
        show cs.getD j undef = x
        rw [List.getD_eq_getElem?_getD, hj']; rfl
      rw [e1]
      exact Den1.plain (hcs x (List.mem_of_getElem? hj')))
    refine ⟨_, rfl, ρ', ha, hH, ?_⟩
    have hF : Fil (modH h₂ [(K, ⟨true, n, [(0, n, .agg ⟨cs⟩)]⟩)]) K := ⟨_, by
      show (h₂.set K _)[K]? = _
      rw [List.getElem?_set_self (List.getElem?_eq_some_iff.1 h2).1]⟩
    intro r hr'
    have := hr' K hF
    simp only [den, den2, den1, den0, denA, this, hρ, Nat.zero_add]
/-- The start of a walk that keeps all old memory. -/
theorem calls_old {f : FuncId} {fn : Func} {c : Code} {vs : List Value} {V : Value} (W : World) (hG : TysOK P G) (hm : P.follows .mixedOrders = true) (hf : P.funcs[f]? = some fn) (hb : fn.body = some c) (hW : 0 < W.heap.size) (hp : vs.all plain2 = true) (hV : plain3 V = true)
    (hwp : initK vs fn.ntmps fun t => wpC P G 1 c (bodyQ P G fn fun v st => N (v = V ∧ st.h[0]? = some (some (oldC W)))) ⟨t, [some (oldC W)]⟩) : Calls P f ⟨vs⟩ W fun e w' => e = .returned V ∧ Below W.heap.size W w' := by
  let X : Ctx := ⟨W, fun a => a.block < W.heap.size, 1, fun _ => (0, 0)⟩
  have one : ∀ (k : Nat) (d : Chunk), [some (oldC W)][k]? = some (some d) → k = 0 ∧ d = oldC W := fun k d hk => by
    cases k with
    | zero => exact ⟨rfl, by simpa using hk.symm⟩
    | succ k => simp at hk
  have H : HOK X (fun _ => (0, 0)) [some (oldC W)] W := by
    refine ⟨Evo.refl _ _, fun i hi => ⟨⟨_, by
        have hi : i < 1 := hi
        obtain rfl : i = 0 := by omega
        rfl⟩, rfl⟩, fun k d hk => hW, fun k d hk j hj => ?_, fun k d hk ho j hj => ?_, fun k d l e hk ho hl hne => ?_, fun i b => i = 0 ∧ b < W.heap.size, fun k d hk => ?_, fun k d b hk hS => ?_, fun k d b l e hk hS hl hne => ?_⟩
    · obtain ⟨rfl, rfl⟩ := one k d hk; exact absurd hj (Nat.not_lt_zero j)
    · obtain ⟨rfl, rfl⟩ := one k d hk; exact absurd hj (Nat.not_lt_zero j)
    · exact absurd ((one k d hk).1.trans (one l e hl).1.symm) hne
    · obtain ⟨rfl, rfl⟩ := one k d hk
      exact ⟨hW, fun b => ⟨fun h => h.2, fun h => ⟨rfl, h⟩⟩, Nat.le_refl _, fun _ _ => rfl⟩
    · obtain ⟨rfl, rfl⟩ := one k d hk
      exact ⟨.inl rfl, hS.2, .inr ⟨hS.2, fun _ => hS.2⟩⟩
    · exact absurd ((one l e hl).1.trans (one k d hk).1.symm) hne
  have hd : ∀ {vs : List Value}, vs.all plain2 = true → All2 (Den (Fil [some (oldC W)]) (fun _ => (0, 0))) vs vs := by
    intro vs
    induction vs with
    | nil => exact fun _ => trivial
    | cons v r ih =>
      intro hp
      simp only [List.all_cons, Bool.and_eq_true] at hp
      exact ⟨Den.plain hp.1, ih hp.2⟩
  refine (calls_sx (args := ⟨vs⟩) (X := X) hG hm hf hb H (hd hp) hwp).mono ?_
  rintro e w' ⟨ρ', v, st, x, rfl, H', hdx, hq⟩
  obtain ⟨rfl, hF⟩ := hq.out
  obtain ⟨S, E⟩ := H'.ext
  have M : OldOK W (ρ' 0) (S 0) w' := E.inv 0 _ hF
  exact ⟨by rw [← hdx.self, den_plain3 hV], H'.evo.os, H'.evo.tape, H'.evo.output, H'.evo.size, fun b hb => M.old b hb⟩
/-- A callee whose own walk keeps old memory, as a contract. -/
theorem call_old {g : FuncId} {fn : Func} {c : Code} {vs : List Value} {V : Value} {h : List (Option Chunk)} (i : Nat) (W : World) (hi : h[i]? = some (some (oldC W))) (hG : TysOK P G) (hm : P.follows .mixedOrders = true) (hf : P.funcs[g]? = some fn) (hb : fn.body = some c) (hW : 0 < W.heap.size) (hp : vs.all plain2 = true) (hV : plain3 V = true) (hr : ∀ xs w, (callFunc g xs).run P w = .ok (.enter g xs) w)
    (hwp : ∀ w, Kept W w → initK vs fn.ntmps fun t => wpC P G 1 c (bodyQ P G fn fun v st => N (v = V ∧ st.h[0]? = some (some (oldC w)))) ⟨t, [some (oldC w)]⟩) : CallOK P g vs h V [] [i] :=
  call_oldP i W hi hp hV hr fun w hk => calls_old w hG hm hf hb (Nat.lt_of_lt_of_le hW hk.1) hp hV (hwp w hk)
end
end Go.Proofs.YtdnkeeedcnjofaaGreatDoor.Sx

namespace Go.Proofs
open Go.Shelf
def Tryz.laysM173_ren : Go.Shelf.Ren := ⟨fun | 173 => 17 | 246 => 31 | 283 => 44 | 284 => 45 | 285 => 46 | 286 => 47 | 129 => 67 | 317 => 66 | 318 => 68 | 319 => 69 | 320 => 70 | 337 => 94 | 338 => 95 | n => n, fun | 2 => 2 | 3 => 3 | 9 => 9 | 4 => 4 | 171 => 83 | 0 => 0 | 53 => 59 | 37 => 86 | 5 => 5 | 173 => 87 | 212 => 104 | 51 => 102 | 20 => 20 | 213 => 105 | 46 => 92 | 232 => 142 | 233 => 143 | n => n, fun | 17 => 1 | 18 => 4 | 19 => 5 | n => n⟩
theorem Tryz.laysM173 : Go.Proofs.LaysM.n173 Tryz.prog Tryz.laysM173_ren := {
  mixed := by kernel_rfl
  f129 := Tryz.func67.trans (congrArg some (by kernel_rfl))
  f173 := Tryz.func17.trans (congrArg some (by kernel_rfl))
  f246 := Tryz.func31.trans (congrArg some (by kernel_rfl))
  f283 := Tryz.func44.trans (congrArg some (by kernel_rfl))
  f284 := Tryz.func45.trans (congrArg some (by kernel_rfl))
  f285 := Tryz.func46.trans (congrArg some (by kernel_rfl))
  f286 := Tryz.func47.trans (congrArg some (by kernel_rfl))
  f317 := Tryz.func66.trans (congrArg some (by kernel_rfl))
  f318 := Tryz.func68.trans (congrArg some (by kernel_rfl))
  f319 := Tryz.func69.trans (congrArg some (by kernel_rfl))
  f320 := Tryz.func70.trans (congrArg some (by kernel_rfl))
  f337 := Tryz.func94.trans (congrArg some (by kernel_rfl))
  f338 := Tryz.func95.trans (congrArg some (by kernel_rfl))
  t0 := Tryz.underlying0
  a0 := Tryz.isAgg0
  z0 := Tryz.sizeOf0
  v0 := Tryz.zeroValue0
  t2 := Tryz.underlying2
  a2 := Tryz.isAgg2
  z2 := Tryz.sizeOf2
  v2 := Tryz.zeroValue2
  t3 := Tryz.underlying3
  a3 := Tryz.isAgg3
  z3 := Tryz.sizeOf3
  v3 := Tryz.zeroValue3
  t4 := Tryz.underlying4
  a4 := Tryz.isAgg4
  z4 := Tryz.sizeOf4
  v4 := Tryz.zeroValue4
  t5 := Tryz.underlying5
  a5 := Tryz.isAgg5
  z5 := Tryz.sizeOf5
  v5 := Tryz.zeroValue5
  t9 := Tryz.underlying9
  a9 := Tryz.isAgg9
  z9 := Tryz.sizeOf9
  v9 := Tryz.zeroValue9
  t20 := Tryz.underlying20
  a20 := Tryz.isAgg20
  z20 := Tryz.sizeOf20
  v20 := Tryz.zeroValue20
  t37 := Tryz.underlying86
  a37 := Tryz.isAgg86
  z37 := Tryz.sizeOf86
  v37 := Tryz.zeroValue86
  t46 := Tryz.underlying92
  a46 := Tryz.isAgg92
  z46 := Tryz.sizeOf92
  v46 := Tryz.zeroValue92
  t51 := Tryz.underlying102
  a51 := Tryz.isAgg102
  z51 := Tryz.sizeOf102
  v51 := Tryz.zeroValue102
  t53 := Tryz.underlying59
  a53 := Tryz.isAgg59
  z53 := Tryz.sizeOf59
  v53 := Tryz.zeroValue59
  t171 := Tryz.underlying83
  a171 := Tryz.isAgg83
  z171 := Tryz.sizeOf83
  v171 := Tryz.zeroValue83
  t173 := Tryz.underlying87
  a173 := Tryz.isAgg87
  z173 := Tryz.sizeOf87
  v173 := Tryz.zeroValue87
  t212 := Tryz.underlying104
  a212 := Tryz.isAgg104
  z212 := Tryz.sizeOf104
  v212 := Tryz.zeroValue104
  t213 := Tryz.underlying105
  a213 := Tryz.isAgg105
  z213 := Tryz.sizeOf105
  t232 := Tryz.underlying142
  a232 := Tryz.isAgg142
  z232 := Tryz.sizeOf142
  v232 := Tryz.zeroValue142
  t233 := Tryz.underlying143
  a233 := Tryz.isAgg143
  z233 := Tryz.sizeOf143
  v233 := Tryz.zeroValue143
  g17 := by kernel_rfl
  g18 := by kernel_rfl
  g19 := by kernel_rfl
  i0 := by kernel_rfl
  i2 := by kernel_rfl
  i3 := by kernel_rfl
  i4 := by kernel_rfl
  i5 := by kernel_rfl
  i9 := by kernel_rfl
  i20 := by kernel_rfl
  i37 := by kernel_rfl
  i46 := by kernel_rfl
  i51 := by kernel_rfl
  i53 := by kernel_rfl
  i171 := by kernel_rfl
  i173 := by kernel_rfl
  i212 := by kernel_rfl
  i232 := by kernel_rfl
  i233 := by kernel_rfl
  m17 := by kernel_rfl
  m18 := by kernel_rfl
  m19 := by kernel_rfl }
open Go.RowKit Go.Sort Go.Lib in
/-- strconv.FormatInt: "FormatInt returns the string representation of i in the given base": AT BASE 10: i's decimal numeral, for every int64. (LAID: no walk: one application.) -/
theorem Tryz.strconv_FormatInt_10 (n : Int) (h0 : -9223372036854775808 ≤ n) (h1 : n ≤ 9223372036854775807) (w : World) (htab : Lib.TabIs Tryz.prog w "internal/strconv.uint64pow10" .u64 Lib.pow10Tab) :
    Calls Tryz.prog 17 #[.int .i64 n, .int .i64 10] w fun e w' => e = .returned (.string ⟨(Lib.itoa n).toArray⟩) ∧ ∃ k os, w' = grow (w.drewN k) os := Any.strconv_FormatInt_10 Tryz.laysM173 n h0 h1 w htab
def Tryz.laysC174_ren : Go.Shelf.Ren := ⟨fun | 174 => 24 | 247 => 39 | 245 => 40 | 287 => 58 | 279 => 59 | 280 => 60 | 281 => 61 | 282 => 62 | 321 => 84 | 322 => 85 | 316 => 86 | 171 => 88 | 205 => 87 | 243 => 99 | 246 => 31 | 283 => 44 | 284 => 45 | 285 => 46 | 286 => 47 | 129 => 67 | 317 => 66 | 318 => 68 | 319 => 69 | 320 => 70 | 337 => 94 | 338 => 95 | n => n, fun | 9 => 9 | 3 => 3 | 2 => 2 | 75 => 55 | 85 => 56 | 4 => 4 | 167 => 94 | 5 => 5 | 53 => 59 | 175 => 95 | 46 => 92 | 168 => 97 | 37 => 86 | 0 => 0 | 210 => 130 | 21 => 21 | 127 => 137 | 145 => 140 | 143 => 138 | 171 => 83 | 173 => 87 | 212 => 104 | 51 => 102 | 20 => 20 | 213 => 105 | 232 => 142 | 233 => 143 | 80 => 148 | n => n, fun | 15 => 2 | 16 => 3 | 17 => 1 | 18 => 4 | 19 => 5 | n => n⟩
theorem Tryz.laysC174 : Go.Proofs.LaysC.n174 Tryz.prog Tryz.laysC174_ren := {
  mixed := by kernel_rfl
  f129 := Tryz.func67.trans (congrArg some (by kernel_rfl))
  f171 := Tryz.func88.trans (congrArg some (by kernel_rfl))
  f174 := Tryz.func24.trans (congrArg some (by kernel_rfl))
  f205 := Tryz.func87.trans (congrArg some (by kernel_rfl))
  f243 := Tryz.func99.trans (congrArg some (by kernel_rfl))
  f245 := Tryz.func40.trans (congrArg some (by kernel_rfl))
  f246 := Tryz.func31.trans (congrArg some (by kernel_rfl))
  f247 := Tryz.func39.trans (congrArg some (by kernel_rfl))
  f279 := Tryz.func59.trans (congrArg some (by kernel_rfl))
  f280 := Tryz.func60.trans (congrArg some (by kernel_rfl))
  f281 := Tryz.func61.trans (congrArg some (by kernel_rfl))
  f282 := Tryz.func62.trans (congrArg some (by kernel_rfl))
  f283 := Tryz.func44.trans (congrArg some (by kernel_rfl))
  f284 := Tryz.func45.trans (congrArg some (by kernel_rfl))
  f285 := Tryz.func46.trans (congrArg some (by kernel_rfl))
  f286 := Tryz.func47.trans (congrArg some (by kernel_rfl))
  f287 := Tryz.func58.trans (congrArg some (by kernel_rfl))
  f316 := Tryz.func86.trans (congrArg some (by kernel_rfl))
  f317 := Tryz.func66.trans (congrArg some (by kernel_rfl))
  f318 := Tryz.func68.trans (congrArg some (by kernel_rfl))
  f319 := Tryz.func69.trans (congrArg some (by kernel_rfl))
  f320 := Tryz.func70.trans (congrArg some (by kernel_rfl))
  f321 := Tryz.func84.trans (congrArg some (by kernel_rfl))
  f322 := Tryz.func85.trans (congrArg some (by kernel_rfl))
  f337 := Tryz.func94.trans (congrArg some (by kernel_rfl))
  f338 := Tryz.func95.trans (congrArg some (by kernel_rfl))
  t0 := Tryz.underlying0
  a0 := Tryz.isAgg0
  z0 := Tryz.sizeOf0
  v0 := Tryz.zeroValue0
  t2 := Tryz.underlying2
  a2 := Tryz.isAgg2
  z2 := Tryz.sizeOf2
  v2 := Tryz.zeroValue2
  t3 := Tryz.underlying3
  a3 := Tryz.isAgg3
  z3 := Tryz.sizeOf3
  v3 := Tryz.zeroValue3
  t4 := Tryz.underlying4
  a4 := Tryz.isAgg4
  z4 := Tryz.sizeOf4
  v4 := Tryz.zeroValue4
  t5 := Tryz.underlying5
  a5 := Tryz.isAgg5
  z5 := Tryz.sizeOf5
  v5 := Tryz.zeroValue5
  t9 := Tryz.underlying9
  a9 := Tryz.isAgg9
  z9 := Tryz.sizeOf9
  v9 := Tryz.zeroValue9
  t20 := Tryz.underlying20
  a20 := Tryz.isAgg20
  z20 := Tryz.sizeOf20
  v20 := Tryz.zeroValue20
  t21 := Tryz.underlying21
  a21 := Tryz.isAgg21
  z21 := Tryz.sizeOf21
  v21 := Tryz.zeroValue21
  t37 := Tryz.underlying86
  a37 := Tryz.isAgg86
  z37 := Tryz.sizeOf86
  v37 := Tryz.zeroValue86
  t46 := Tryz.underlying92
  a46 := Tryz.isAgg92
  z46 := Tryz.sizeOf92
  v46 := Tryz.zeroValue92
  t51 := Tryz.underlying102
  a51 := Tryz.isAgg102
  z51 := Tryz.sizeOf102
  v51 := Tryz.zeroValue102
  t53 := Tryz.underlying59
  a53 := Tryz.isAgg59
  z53 := Tryz.sizeOf59
  v53 := Tryz.zeroValue59
  t75 := Tryz.underlying55
  a75 := Tryz.isAgg55
  z75 := Tryz.sizeOf55
  v75 := Tryz.zeroValue55
  t85 := Tryz.underlying56
  a85 := Tryz.isAgg56
  z85 := Tryz.sizeOf56
  v85 := Tryz.zeroValue56
  t127 := Tryz.underlying137
  a127 := Tryz.isAgg137
  z127 := Tryz.sizeOf137
  v127 := Tryz.zeroValue137
  t143 := Tryz.underlying138
  a143 := Tryz.isAgg138
  z143 := Tryz.sizeOf138
  v143 := Tryz.zeroValue138
  t145 := Tryz.underlying140
  a145 := Tryz.isAgg140
  z145 := Tryz.sizeOf140
  v145 := Tryz.zeroValue140
  t167 := Tryz.underlying94
  a167 := Tryz.isAgg94
  z167 := Tryz.sizeOf94
  v167 := Tryz.zeroValue94
  t168 := Tryz.underlying97
  a168 := Tryz.isAgg97
  z168 := Tryz.sizeOf97
  v168 := Tryz.zeroValue97
  t171 := Tryz.underlying83
  a171 := Tryz.isAgg83
  z171 := Tryz.sizeOf83
  v171 := Tryz.zeroValue83
  t173 := Tryz.underlying87
  a173 := Tryz.isAgg87
  z173 := Tryz.sizeOf87
  v173 := Tryz.zeroValue87
  t175 := Tryz.underlying95
  a175 := Tryz.isAgg95
  z175 := Tryz.sizeOf95
  v175 := Tryz.zeroValue95
  t210 := Tryz.underlying130
  a210 := Tryz.isAgg130
  z210 := Tryz.sizeOf130
  v210 := Tryz.zeroValue130
  t212 := Tryz.underlying104
  a212 := Tryz.isAgg104
  z212 := Tryz.sizeOf104
  v212 := Tryz.zeroValue104
  t213 := Tryz.underlying105
  a213 := Tryz.isAgg105
  z213 := Tryz.sizeOf105
  t232 := Tryz.underlying142
  a232 := Tryz.isAgg142
  z232 := Tryz.sizeOf142
  v232 := Tryz.zeroValue142
  t233 := Tryz.underlying143
  a233 := Tryz.isAgg143
  z233 := Tryz.sizeOf143
  v233 := Tryz.zeroValue143
  g15 := by kernel_rfl
  g16 := by kernel_rfl
  g17 := by kernel_rfl
  g18 := by kernel_rfl
  g19 := by kernel_rfl
  t80 := Tryz.underlying148
  a80 := Tryz.isAgg148
  z80 := Tryz.sizeOf148
  v80 := Tryz.zeroValue148
  i0 := by kernel_rfl
  i2 := by kernel_rfl
  i3 := by kernel_rfl
  i4 := by kernel_rfl
  i5 := by kernel_rfl
  i9 := by kernel_rfl
  i20 := by kernel_rfl
  i21 := by kernel_rfl
  i37 := by kernel_rfl
  i46 := by kernel_rfl
  i51 := by kernel_rfl
  i53 := by kernel_rfl
  i75 := by kernel_rfl
  i80 := by kernel_rfl
  i85 := by kernel_rfl
  i127 := by kernel_rfl
  i143 := by kernel_rfl
  i145 := by kernel_rfl
  i167 := by kernel_rfl
  i168 := by kernel_rfl
  i171 := by kernel_rfl
  i173 := by kernel_rfl
  i175 := by kernel_rfl
  i210 := by kernel_rfl
  i212 := by kernel_rfl
  i232 := by kernel_rfl
  i233 := by kernel_rfl
  m15 := by kernel_rfl
  m16 := by kernel_rfl
  m17 := by kernel_rfl
  m18 := by kernel_rfl
  m19 := by kernel_rfl
  c0 := by kernel_rfl
  c2 := by kernel_rfl
  c3 := by kernel_rfl
  c4 := by kernel_rfl
  c5 := by kernel_rfl
  c9 := by kernel_rfl
  c20 := by kernel_rfl
  c21 := by kernel_rfl
  c37 := by kernel_rfl
  c46 := by kernel_rfl
  c51 := by kernel_rfl
  c53 := by kernel_rfl
  c75 := by kernel_rfl
  c80 := by kernel_rfl
  c85 := by kernel_rfl
  c127 := by kernel_rfl
  c143 := by kernel_rfl
  c145 := by kernel_rfl
  c167 := by kernel_rfl
  c168 := by kernel_rfl
  c171 := by kernel_rfl
  c173 := by kernel_rfl
  c175 := by kernel_rfl
  c210 := by kernel_rfl
  c212 := by kernel_rfl
  c213 := by kernel_rfl
  c232 := by kernel_rfl
  c233 := by kernel_rfl }
open Go.RowKit in
/-- strconv.ParseInt(s, 10, 64), AT EVERY STRING THAT SPELLS AN int64 ('Lib.parseIntB 64 s.data.toList = .ok v'): v, AND NO ERROR. (LAID: no walk: one application.) -/
theorem Tryz.strconv_ParseInt_10_at64_ok (s : ByteArray) (hmax : s.size ≤ 9223372036854775806) (v : Int) (h : Lib.parseIntB 64 s.data.toList = .ok v) (w : World) :
    Calls Tryz.prog 24 #[.string s, .int .i64 10, .int .i64 64] w fun e w' => e = .returned (.tuple #[.int .i64 v, .nilIface]) ∧ (w' = w ∨ ∃ t, w' = Lib.bytesWorld w 5 t) := Any.strconv_ParseInt_10_at64_ok Tryz.laysC174 s hmax v h w
open Go.RowKit in
/-- strconv.ParseInt(s, 10, 64), AT EVERY STRING THAT IS NO DECIMAL NUMERAL: 0, AND AN ERROR THAT IS NOT nil: a *NumError in a new block N: {Func: "ParseInt", Num: s's bytes, Err: what the variable ErrSyntax holds}. Of what was there nothing has turned. (LAID: no walk: one application.) -/
theorem Tryz.strconv_ParseInt_10_at64_syntax (s : ByteArray) (hlim : s.size ≤ 281474976710656) (h : Lib.parseIntB 64 s.data.toList = Lib.parseIntB 64 []) (ev : Value) (w : World) (hv : w.cell? ⟨2, 0, none⟩ = some ev) (hev : ev = .nilIface ∨ ∃ te pe, ev = .iface te pe) :
    Calls Tryz.prog 24 #[.string s, .int .i64 10, .int .i64 64] w fun e w' => ∃ N, e = .returned (.tuple #[.int .i64 (0), .iface 97 (.pointer (some ⟨N, 0, none⟩))]) ∧ w.heap.size ≤ N ∧ w'.heap[N]? = some (.cells #[.string ⟨#[80, 97, 114, 115, 101, 73, 110, 116]⟩, .string s, ev] 130 (0, 0)) ∧ Below w.heap.size w w' := Any.strconv_ParseInt_10_at64_syntax Tryz.laysC174 s hlim h ev w hv hev
open Go.RowKit in
/-- strconv.ParseInt(s, 10, 64), AT EVERY NUMERAL THAT NO int64 HOLDS: THE GREATEST OR THE LEAST int64, BY THE SIGN ('Lib.intSat 64'), AND AN ERROR THAT IS NOT nil: a *NumError in a new block N: {Func: "ParseInt", Num: s's bytes, Err: what the variable ErrRange holds}. Of what was there nothing has turned. (LAID: no walk: one application.) -/
theorem Tryz.strconv_ParseInt_10_at64_range (s : ByteArray) (hlim : s.size ≤ 281474976710656) (h : Lib.parseIntB 64 s.data.toList = .range) (ev : Value) (w : World) (hv : w.cell? ⟨3, 0, none⟩ = some ev) (hev : ev = .nilIface ∨ ∃ te pe, ev = .iface te pe) :
    Calls Tryz.prog 24 #[.string s, .int .i64 10, .int .i64 64] w fun e w' => ∃ N, e = .returned (.tuple #[.int .i64 (Lib.intSat 64 s.data.toList), .iface 97 (.pointer (some ⟨N, 0, none⟩))]) ∧ w.heap.size ≤ N ∧ w'.heap[N]? = some (.cells #[.string ⟨#[80, 97, 114, 115, 101, 73, 110, 116]⟩, .string s, ev] 130 (0, 0)) ∧ Below w.heap.size w w' := Any.strconv_ParseInt_10_at64_range Tryz.laysC174 s hlim h ev w hv hev
def Tryz.lays145_ren : Go.Shelf.Ren := ⟨fun | 145 => 11 | 220 => 22 | 219 => 37 | 217 => 51 | 225 => 52 | 224 => 53 | 267 => 54 | 266 => 79 | 314 => 80 | n => n, fun | 9 => 9 | 4 => 4 | 59 => 37 | 3 => 3 | 5 => 5 | 46 => 92 | 146 => 121 | 51 => 102 | n => n, fun | 1 => 0 | n => n⟩
theorem Tryz.lays145 : Go.Proofs.Lays.n145 Tryz.prog Tryz.lays145_ren := {
  mixed := by kernel_rfl
  f145 := Tryz.func11.trans (congrArg some (by kernel_rfl))
  f217 := Tryz.func51.trans (congrArg some (by kernel_rfl))
  f219 := Tryz.func37.trans (congrArg some (by kernel_rfl))
  f220 := Tryz.func22.trans (congrArg some (by kernel_rfl))
  f224 := Tryz.func53.trans (congrArg some (by kernel_rfl))
  f225 := Tryz.func52.trans (congrArg some (by kernel_rfl))
  f266 := Tryz.func79.trans (congrArg some (by kernel_rfl))
  f267 := Tryz.func54.trans (congrArg some (by kernel_rfl))
  f314 := Tryz.func80.trans (congrArg some (by kernel_rfl))
  t3 := Tryz.underlying3
  a3 := Tryz.isAgg3
  z3 := Tryz.sizeOf3
  v3 := Tryz.zeroValue3
  t4 := Tryz.underlying4
  a4 := Tryz.isAgg4
  z4 := Tryz.sizeOf4
  v4 := Tryz.zeroValue4
  t5 := Tryz.underlying5
  a5 := Tryz.isAgg5
  z5 := Tryz.sizeOf5
  v5 := Tryz.zeroValue5
  t9 := Tryz.underlying9
  a9 := Tryz.isAgg9
  z9 := Tryz.sizeOf9
  v9 := Tryz.zeroValue9
  t46 := Tryz.underlying92
  a46 := Tryz.isAgg92
  z46 := Tryz.sizeOf92
  v46 := Tryz.zeroValue92
  t51 := Tryz.underlying102
  a51 := Tryz.isAgg102
  z51 := Tryz.sizeOf102
  v51 := Tryz.zeroValue102
  t59 := Tryz.underlying37
  a59 := Tryz.isAgg37
  z59 := Tryz.sizeOf37
  v59 := Tryz.zeroValue37
  t146 := Tryz.underlying121
  a146 := Tryz.isAgg121
  z146 := Tryz.sizeOf121
  v146 := Tryz.zeroValue121
  g1 := by kernel_rfl }
open Go.RowKit Go.Lib in
/-- strings.Cut: "Cut slices s around the first instance of sep, returning the text before and after sep. The found result reports whether sep appears in s. If sep does not appear in s, cut returns s, "", false.": IT RETURNS 'Lib.cut s sep'; the world is as it was but for the count of draws. (LAID: no walk: one application.) -/
theorem Tryz.strings_Cut (s sep : ByteArray) (m : Int) (w : World) (hs : s.size < 4294967281) (hm : w.cell? ⟨0, 0, none⟩ = some (.int .i64 m)) :
    Calls Tryz.prog 11 #[.string s, .string sep] w fun e w' => e = .returned (.tuple #[.string ⟨(Lib.cut s.data.toList sep.data.toList).1.toArray⟩, .string ⟨(Lib.cut s.data.toList sep.data.toList).2.1.toArray⟩, .bool (Lib.cut s.data.toList sep.data.toList).2.2]) ∧ ∃ n, w' = w.drewN n := Any.strings_Cut Tryz.lays145 s sep m w hs hm
def Tryz.lays146_ren : Go.Shelf.Ren := ⟨fun | 146 => 23 | 221 => 38 | 268 => 55 | 138 => 56 | 143 => 57 | 195 => 81 | 197 => 82 | 218 => 83 | 219 => 37 | 260 => 98 | 217 => 51 | 225 => 52 | 224 => 53 | 267 => 54 | 266 => 79 | 314 => 80 | n => n, fun | 9 => 9 | 31 => 52 | 3 => 3 | 4 => 4 | 0 => 0 | 105 => 124 | 21 => 21 | 5 => 5 | 46 => 92 | 119 => 144 | 139 => 147 | 138 => 146 | 146 => 121 | 51 => 102 | n => n, fun | 1 => 0 | 3 => 6 | 4 => 7 | n => n⟩
theorem Tryz.lays146 : Go.Proofs.Lays.n146 Tryz.prog Tryz.lays146_ren := {
  mixed := by kernel_rfl
  f138 := Tryz.func56.trans (congrArg some (by kernel_rfl))
  f143 := Tryz.func57.trans (congrArg some (by kernel_rfl))
  f146 := Tryz.func23.trans (congrArg some (by kernel_rfl))
  f195 := Tryz.func81.trans (congrArg some (by kernel_rfl))
  f197 := Tryz.func82.trans (congrArg some (by kernel_rfl))
  f217 := Tryz.func51.trans (congrArg some (by kernel_rfl))
  f218 := Tryz.func83.trans (congrArg some (by kernel_rfl))
  f219 := Tryz.func37.trans (congrArg some (by kernel_rfl))
  f221 := Tryz.func38.trans (congrArg some (by kernel_rfl))
  f224 := Tryz.func53.trans (congrArg some (by kernel_rfl))
  f225 := Tryz.func52.trans (congrArg some (by kernel_rfl))
  f260 := Tryz.func98.trans (congrArg some (by kernel_rfl))
  f266 := Tryz.func79.trans (congrArg some (by kernel_rfl))
  f267 := Tryz.func54.trans (congrArg some (by kernel_rfl))
  f268 := Tryz.func55.trans (congrArg some (by kernel_rfl))
  f314 := Tryz.func80.trans (congrArg some (by kernel_rfl))
  t0 := Tryz.underlying0
  a0 := Tryz.isAgg0
  z0 := Tryz.sizeOf0
  v0 := Tryz.zeroValue0
  t3 := Tryz.underlying3
  a3 := Tryz.isAgg3
  z3 := Tryz.sizeOf3
  v3 := Tryz.zeroValue3
  t4 := Tryz.underlying4
  a4 := Tryz.isAgg4
  z4 := Tryz.sizeOf4
  v4 := Tryz.zeroValue4
  t5 := Tryz.underlying5
  a5 := Tryz.isAgg5
  z5 := Tryz.sizeOf5
  v5 := Tryz.zeroValue5
  t9 := Tryz.underlying9
  a9 := Tryz.isAgg9
  z9 := Tryz.sizeOf9
  v9 := Tryz.zeroValue9
  t21 := Tryz.underlying21
  a21 := Tryz.isAgg21
  z21 := Tryz.sizeOf21
  v21 := Tryz.zeroValue21
  t31 := Tryz.underlying52
  a31 := Tryz.isAgg52
  z31 := Tryz.sizeOf52
  v31 := Tryz.zeroValue52
  t46 := Tryz.underlying92
  a46 := Tryz.isAgg92
  z46 := Tryz.sizeOf92
  v46 := Tryz.zeroValue92
  t51 := Tryz.underlying102
  a51 := Tryz.isAgg102
  z51 := Tryz.sizeOf102
  v51 := Tryz.zeroValue102
  t105 := Tryz.underlying124
  a105 := Tryz.isAgg124
  z105 := Tryz.sizeOf124
  v105 := Tryz.zeroValue124
  t119 := Tryz.underlying144
  a119 := Tryz.isAgg144
  z119 := Tryz.sizeOf144
  t138 := Tryz.underlying146
  a138 := Tryz.isAgg146
  z138 := Tryz.sizeOf146
  v138 := Tryz.zeroValue146
  t139 := Tryz.underlying147
  a139 := Tryz.isAgg147
  z139 := Tryz.sizeOf147
  v139 := Tryz.zeroValue147
  t146 := Tryz.underlying121
  a146 := Tryz.isAgg121
  z146 := Tryz.sizeOf121
  v146 := Tryz.zeroValue121
  g1 := by kernel_rfl
  g3 := by kernel_rfl
  g4 := by kernel_rfl }
open Go.RowKit Go.Lib in
/-- strings.Split. (LAID: no walk: one application.) -/
theorem Tryz.strings_Split (s sep : ByteArray) (m : Int) (w : World) (hs : s.size < 4294967281) (hm : w.cell? ⟨0, 0, none⟩ = some (.int .i64 m)) (h1 : 1 ≤ sep.size) :
    Calls Tryz.prog 23 #[.string s, .string sep] w fun e w' =>
      e = .returned (.slice (some ⟨w.heap.size, 0, none⟩) (Lib.countB s sep + 1) (Lib.countB s sep + 1)) ∧ w' = w.alloc (.cells ((Lib.splitB sep 0 (Lib.countB s sep) s).map Value.string).toArray 9) := Any.strings_Split Tryz.lays146 (by kernel_rfl) s sep m w hs hm h1
end Go.Proofs


/-
  The library's contracts of numerals and texts as offers; the texts of ellipses.
-/
set_option linter.unusedVariables false
set_option linter.unusedSimpArgs false
namespace Go.Proofs.YtdnkeeedcnjofaaGreatDoor
open Go Go.RowKit Sx

/-- What the walks ask of the memory at the beginning. -/
structure TxOK (W : World) : Prop where
  pos : 0 < W.heap.size
  tab : Lib.TabIs Tryz.prog W "internal/strconv.uint64pow10" .u64 Lib.pow10Tab
  len : ∃ m, W.cell? ⟨0, 0, none⟩ = some (.int .i64 m)
theorem tab_kept {W w : World} (h : Kept W w) {nm : String} {k : IntKind} {zs : List Int} (ht : Lib.TabIs Tryz.prog W nm k zs) : Lib.TabIs Tryz.prog w nm k zs := by
  unfold Lib.TabIs World.var? at *
  cases hg : Tryz.prog.globalNamed nm with
  | none => simp [hg] at ht
  | some g =>
    simp only [hg, Option.bind_some] at ht ⊢
    have hlt : g < W.heap.size := by
      rcases Nat.lt_or_ge g W.heap.size with h' | h'
      · exact h'
      · rw [Array.getElem?_eq_none h'] at ht; simp at ht
    rw [h.2 g hlt]
    exact ht
theorem TxOK.kept {W w : World} (h : TxOK W) (hk : Kept W w) : TxOK w := ⟨Nat.lt_of_lt_of_le h.pos hk.1, tab_kept hk h.tab, by
  obtain ⟨m, hm⟩ := h.len
  exact ⟨m, hk.cell hm⟩⟩
/-- A numeral. -/
def numB (n : Int) : ByteArray := ⟨(Lib.itoa n).toArray⟩
theorem cFmt (W : World) (hW : TxOK W) (n : Int) (hn : -9223372036854775808 ≤ n ∧ n ≤ 9223372036854775807) (i : Nat) (h : List (Option Chunk)) (hi : h[i]? = some (some (oldC W))) : CallOK Tryz.prog 17 [.int .i64 n, .int .i64 10] h (.string (numB n)) [] [i] :=
  call_oldP i W hi rfl rfl (Tryz.call17) fun w hk => (Tryz.strconv_FormatInt_10 n hn.1 hn.2 w (hW.kept hk).tab).mono fun e w' ⟨he, k, os, hw⟩ => ⟨he, by subst hw; exact Lib.below_grow _ w (Nat.le_refl _) k os⟩
theorem numB_le (n : Int) (hn : -9223372036854775808 ≤ n ∧ n ≤ 9223372036854775807) : (numB n).size ≤ 21 := Lib.itoa_length_le n hn.1 hn.2
theorem cat_is (x y : Operand) (a b : ByteArray) (h : a.size + b.size ≤ 9223372036854775807) : BinIs Tryz.prog .add 9 x y (.string a) (.string b) (.string (a ++ b)) :=
  ⟨rfl, rfl, rfl, fun w => by go_simp⟩
def Fits (n : Int) : Prop := -9223372036854775808 ≤ n ∧ n ≤ 9223372036854775807
theorem cFmt1 (W : World) (hW : TxOK W) (n : Int) (hn : Fits n) (i : Nat) (h : List (Option Chunk)) (hi : h[i]? = some (some (oldC W))) : CallOK Tryz.prog 16 [.int .i64 n] h (.string (numB n)) [] [i] := by
  refine call_old i W hi tysOK mixed Tryz.func16 (by rfl) hW.pos rfl rfl (Tryz.call16) fun w hk => ?_
  repeat' (refine N.go ?_; first | with_reducible refine N.obl (by decide) ?_ | with_reducible refine N.obl (flat_wi _ _ _) ?_ | with_reducible refine N.obl (flat_lim _ _) ?_ | with_reducible refine N.eq ?_ | with_reducible refine N.obl rfl ?_ | with_reducible refine N.obl ⟨by kernel_rfl, by kernel_rfl⟩ ?_ | with_reducible refine N.alt ?_ | with_reducible refine N.forkT ?_ | with_reducible refine N.forkF ?_ | refine N.call (cFmt _ (hW.kept hk) n hn 0 _ (by rfl)) ?_ | exact N.mk ⟨rfl, rfl⟩ | fail_if_success skip)
def comma : ByteArray := ⟨#[44]⟩
def stroke : ByteArray := ⟨#[47]⟩
def textB (x y a b d : Int) : ByteArray := numB x ++ comma ++ numB y ++ stroke ++ numB a ++ comma ++ numB b ++ comma ++ numB d
set_option maxRecDepth 100000 in
set_option maxHeartbeats 2000000 in
theorem cText (W : World) (hW : TxOK W) (x y a b d : Int) (hx : Fits x) (hy : Fits y) (ha : Fits a) (hb : Fits b) (hd : Fits d) (i : Nat) (h : List (Option Chunk)) (hi : h[i]? = some (some (oldC W))) : CallOK Tryz.prog 7 [.agg #[.int .i64 x, .int .i64 y, .int .i64 a, .int .i64 b, .int .i64 d]] h (.string (textB x y a b d)) [] [i] := by
  have lx := numB_le x hx
  have ly := numB_le y hy
  have la := numB_le a ha
  have lb := numB_le b hb
  have ld := numB_le d hd
  have lc : (ByteArray.mk #[44]).size = 1 := rfl
  have ls : (ByteArray.mk #[47]).size = 1 := rfl
  refine call_old i W hi tysOK mixed Tryz.func7 (by rfl) hW.pos rfl rfl (Tryz.call7) fun w hk => ?_
  repeat' (refine N.go ?_; first | with_reducible refine N.obl (by decide) ?_ | with_reducible refine N.obl (flat_wi _ _ _) ?_ | with_reducible refine N.obl (flat_lim _ _) ?_ | with_reducible refine N.eq ?_ | with_reducible refine N.obl rfl ?_ | with_reducible refine N.obl ⟨by kernel_rfl, by kernel_rfl⟩ ?_ | with_reducible refine N.alt ?_ | with_reducible refine N.forkT ?_ | with_reducible refine N.forkF ?_ | refine N.call (cFmt1 _ (hW.kept hk) x hx 0 _ (by rfl)) ?_ | refine N.call (cFmt1 _ (hW.kept hk) y hy 0 _ (by rfl)) ?_ | refine N.call (cFmt1 _ (hW.kept hk) a ha 0 _ (by rfl)) ?_ | refine N.call (cFmt1 _ (hW.kept hk) b hb 0 _ (by rfl)) ?_ | refine N.call (cFmt1 _ (hW.kept hk) d hd 0 _ (by rfl)) ?_ | refine N.bin _ (cat_is _ _ _ _ (by simp only [ByteArray.size_append, lc, ls]; omega)) ?_ | exact N.mk ⟨rfl, rfl⟩ | fail_if_success skip)
theorem drewN_below (w : World) (n : Nat) : Below w.heap.size w (w.drewN n) := by
  have := Lib.below_grow w.heap.size w (Nat.le_refl _) n #[]
  exact this
theorem cCut (W : World) (hW : TxOK W) (s p q : ByteArray) (hs : s.size < 4294967281) (hc : Lib.cut s.data.toList [47] = (p.data.toList, q.data.toList, true)) (i : Nat) (h : List (Option Chunk)) (hi : h[i]? = some (some (oldC W))) :
    CallOK Tryz.prog 11 [.string s, .string ⟨#[47]⟩] h (.tuple #[.string p, .string q, .bool true]) [] [i] :=
  call_oldP i W hi rfl rfl (Tryz.call11) fun w hk => by
    obtain ⟨m, hm⟩ := (hW.kept hk).len
    refine (Tryz.strings_Cut s ⟨#[47]⟩ m w hs hm).mono ?_
    rintro e w' ⟨he, n, rfl⟩
    refine ⟨?_, drewN_below w n⟩
    rw [he, hc]
theorem cSplit (W : World) (hW : TxOK W) (s : ByteArray) (ls : List ByteArray) (hs : s.size < 4294967281) (h1 : Lib.countB s ⟨#[44]⟩ + 1 = ls.length) (h2 : Lib.splitB ⟨#[44]⟩ 0 (Lib.countB s ⟨#[44]⟩) s = ls) (i K : Nat) (h : List (Option Chunk)) (hi : h[i]? = some (some (oldC W))) (hK : h[K]? = some none) :
    CallOK Tryz.prog 23 [.string s, .string ⟨#[44]⟩] h (.slice (some ⟨K, 0, some 0⟩) ls.length ls.length) [(K, ⟨true, ls.length, [(0, ls.length, .agg ⟨ls.map .string⟩)]⟩)] [i] :=
  call_oldS 9 (ls.map .string) i K W hi hK rfl (by simp) (fun c hc => by
    obtain ⟨b, _, rfl⟩ := List.mem_map.1 hc
    rfl) (Tryz.call23) fun w hk => by
    obtain ⟨m, hm⟩ := (hW.kept hk).len
    refine (Tryz.strings_Split s ⟨#[44]⟩ m w hs hm (by decide)).mono ?_
    rintro e w' ⟨he, hw⟩
    rw [h1] at he
    rw [h2] at hw
    exact ⟨he, hw⟩
theorem cParse (W : World) (hW : TxOK W) (n : Int) (hn : Fits n) (i : Nat) (h : List (Option Chunk)) (hi : h[i]? = some (some (oldC W))) : CallOK Tryz.prog 24 [.string (numB n), .int .i64 10, .int .i64 64] h (.tuple #[.int .i64 n, .nilIface]) [] [i] :=
  call_oldP i W hi rfl rfl (Tryz.call24) fun w hk => by
    have := numB_le n hn
    refine (Tryz.strconv_ParseInt_10_at64_ok (numB n) (by omega) n (Txt.parse_itoa n hn.1 hn.2) w).mono ?_
    rintro e w' ⟨he, hw⟩
    refine ⟨he, ?_⟩
    rcases hw with rfl | ⟨t, rfl⟩
    · exact Below.refl _ _
    · exact Joins.below_bytesWorld _ w _ t (Nat.le_refl _)
end Go.Proofs.YtdnkeeedcnjofaaGreatDoor


/-
  Maps from whole numbers: a stretch that is a map; its operations.
-/
set_option linter.unusedVariables false
set_option linter.unusedSimpArgs false
namespace Go.Proofs.YtdnkeeedcnjofaaGreatDoor.Sx
open Go Go.RowKit Go.MapKept

section
variable {α : Type}
def dGet (D : List (Int × α)) (k : Int) : Option α := (D.find? fun q => decide (q.1 = k)).map (·.2)
def dPut (D : List (Int × α)) (k : Int) (a : α) : List (Int × α) := match dGet D k with
  | some _ => D.map fun q => if q.1 = k then (k, a) else q
  | none => D ++ [(k, a)]
def dDel (D : List (Int × α)) (k : Int) : List (Int × α) := D.filter fun q => !decide (q.1 = k)
theorem dGet_none {D : List (Int × α)} {k : Int} : dGet D k = none ↔ ∀ q ∈ D, q.1 ≠ k := by
  simp [dGet, List.find?_eq_none]
theorem dGet_some {D : List (Int × α)} {k : Int} {a : α} (h : dGet D k = some a) : (k, a) ∈ D := by
  simp only [dGet, Option.map_eq_some_iff] at h
  obtain ⟨q, hq, rfl⟩ := h
  have h1 := List.find?_some hq
  have h2 := List.mem_of_find?_eq_some hq
  simp only [decide_eq_true_eq] at h1
  rw [← h1]; exact h2
theorem dGet_mem {D : List (Int × α)} {k : Int} {a : α} (hd : (D.map (·.1)).Nodup) (h : (k, a) ∈ D) : dGet D k = some a := by
  induction D with
  | nil => cases h
  | cons q D ih =>
    simp only [List.map_cons, List.nodup_cons] at hd
    unfold dGet
    rw [List.find?_cons]
    by_cases e : q.1 = k
    · have : decide (q.1 = k) = true := by simp [e]
      rw [this]
      rcases List.mem_cons.1 h with rfl | h
      · rfl
      · exact absurd (List.mem_map.2 ⟨(k, a), h, rfl⟩) (e ▸ hd.1)
    · have : decide (q.1 = k) = false := by simp [e]
      rw [this]
      rcases List.mem_cons.1 h with rfl | h
      · exact absurd rfl e
      · exact ih hd.2 h
end

/-- An array of entries that reads as D. -/
structure MapIs {α : Type} (enc : α → Value) (D : List (Int × α)) (es : Array MapEntry) (clock : Nat) : Prop where
  ents : es.toList.map (fun e => (e.key, e.val)) = D.map fun q => (.int .i64 q.1, enc q.2)
  stamped : Stamped es clock
  wf : ∀ q ∈ D, -9223372036854775808 ≤ q.1 ∧ q.1 ≤ 9223372036854775807
section
variable {α : Type} {enc : α → Value} {D : List (Int × α)} {es : Array MapEntry} {clock : Nat}
theorem MapIs.at (M : MapIs enc D es clock) (j : Nat) : (es.toList[j]?).map (fun e => (e.key, e.val)) = (D[j]?).map fun q => ((.int .i64 q.1, enc q.2) : Value × Value) := by
  have := congrArg (fun l => l[j]?) M.ents
  simpa using this
theorem MapIs.keys (M : MapIs enc D es clock) : ∀ x ∈ es.toList, ∃ k, x.key = .int .i64 k := fun x hx => by
  have : (x.key, x.val) ∈ es.toList.map (fun e => (e.key, e.val)) := List.mem_map.2 ⟨x, hx, rfl⟩
  rw [M.ents] at this
  obtain ⟨q, _, e⟩ := List.mem_map.1 this
  exact ⟨q.1, (Prod.mk.inj e).1.symm⟩
theorem MapIs.isKey (M : MapIs enc D es clock) : ∀ x ∈ es.toList, IsKey (.int .i64) x.key := fun x hx => by
  obtain ⟨k, e⟩ := M.keys x hx
  rw [e]; exact rfl
theorem MapIs.nodup (M : MapIs enc D es clock) : (D.map (·.1)).Nodup := by
  have h := M.stamped.2.2
  have e : es.toList.map (·.key) = (D.map (·.1)).map (Value.int .i64) := by
    have := congrArg (fun l => l.map Prod.fst) M.ents
    simpa [List.map_map, Function.comp_def] using this
  rw [e] at h
  exact List.Pairwise.of_map (Value.int .i64) (fun a b hab e => hab (by rw [e])) h
theorem MapIs.find (M : MapIs enc D es clock) (k : Int) : (dGet D k = none ∧ Instr.findNow (.int .i64) (.int .i64 k) es.toList 0 = some none ∧ ∀ x ∈ es.toList, x.key ≠ .int .i64 k) ∨
    ∃ j a, dGet D k = some a ∧ D[j]? = some (k, a) ∧ (∃ e, es.toList[j]? = some e ∧ e.key = .int .i64 k) ∧ Instr.findNow (.int .i64) (.int .i64 k) es.toList 0 = some (some (j, enc a)) := by
  rcases findNow_spec (d := .int .i64) (k := .int .i64 k) rfl es.toList 0 M.isKey with ⟨h1, h2⟩ | ⟨j, e, h1, h2, h3⟩
  · refine .inl ⟨dGet_none.2 fun q hq e => ?_, h1, h2⟩
    have : ((.int .i64 q.1, enc q.2) : Value × Value) ∈ es.toList.map (fun e => (e.key, e.val)) := by rw [M.ents]; exact List.mem_map.2 ⟨q, hq, rfl⟩
    obtain ⟨x, hx, ex⟩ := List.mem_map.1 this
    exact h2 x hx (by rw [(Prod.mk.inj ex).1, e])
  · have hj := M.at j
    rw [h2] at hj
    simp only [Option.map_some] at hj
    cases hq : D[j]? with
    | none => rw [hq] at hj; cases hj
    | some q =>
      rw [hq] at hj
      simp only [Option.map_some, Option.some.injEq, Prod.mk.injEq] at hj
      have hk : q.1 = k := by
        have := hj.1
        rw [h3] at this
        simpa using this.symm
      obtain ⟨q1, a⟩ := q
      subst hk
      refine .inr ⟨j, a, dGet_mem M.nodup (List.mem_of_getElem? hq), hq, ⟨e, h2, h3⟩, ?_⟩
      rw [h1, Nat.zero_add, hj.2]
theorem MapIs.put (M : MapIs enc D es clock) {k : Int} (hk : -9223372036854775808 ≤ k ∧ k ≤ 9223372036854775807) (a : α) {j : Nat} {b : α} (hg : dGet D k = some b) (hj : D[j]? = some (k, b)) (hv : Value) (hve : hv = enc a) : MapIs enc (dPut D k a) (es.modify j fun e => { e with key := .int .i64 k, val := hv }) clock := by
  subst hve
  have hnd := M.nodup
  have hjl := (List.getElem?_eq_some_iff.1 hj).1
  refine ⟨?_, stamped_modify M.stamped j _ (fun _ _ => rfl) (fun e _ he => ?_), fun q hq => ?_⟩
  · unfold dPut
    rw [hg]
    apply List.ext_getElem?
    intro i
    simp only [List.getElem?_map, Array.getElem?_toList, Array.getElem?_modify]
    have hi := M.at i
    rw [Array.getElem?_toList] at hi
    by_cases e : j = i
    · subst e
      rw [hj] at hi ⊢
      cases he : es[j]? with
      | none => rw [he] at hi; cases hi
      | some x => simp
    · rw [if_neg e, hi]
      cases hq : D[i]? with
      | none => simp
      | some q =>
        have hne : q.1 ≠ k := fun h => by
          refine e ((List.getElem?_inj (l := D.map (·.1)) (by simpa using hjl) hnd).1 ?_)
          rw [List.getElem?_map, List.getElem?_map, hj, hq]; simp [h]
        simp [hne]
  · have hi := M.at j
    rw [Array.getElem?_toList, he, hj] at hi
    simp only [Option.map_some, Option.some.injEq, Prod.mk.injEq] at hi
    exact hi.1.symm
  · unfold dPut at hq
    rw [hg] at hq
    obtain ⟨q', hq', rfl⟩ := List.mem_map.1 hq
    split
    · exact hk
    · exact M.wf q' hq'
theorem MapIs.push (M : MapIs enc D es clock) {k : Int} (hk : -9223372036854775808 ≤ k ∧ k ≤ 9223372036854775807) (a : α) (hg : dGet D k = none) (hn : ∀ x ∈ es.toList, x.key ≠ .int .i64 k) : MapIs enc (dPut D k a) (es.push { key := .int .i64 k, val := enc a, born := clock }) (clock + 1) := by
  refine ⟨?_, stamped_push M.stamped hn, fun q hq => ?_⟩
  · unfold dPut
    rw [hg]
    simp only [Array.toList_push, List.map_append, M.ents, List.map_cons, List.map_nil]
  · unfold dPut at hq
    rw [hg] at hq
    rcases List.mem_append.1 hq with hq | hq
    · exact M.wf q hq
    · simp only [List.mem_singleton] at hq; subst hq; exact hk
theorem map_erase {β γ : Type} (f : β → γ) : ∀ (l : List β) (j : Nat), (l.eraseIdx j).map f = (l.map f).eraseIdx j
  | [], _ => by simp
  | x :: l, 0 => by simp
  | x :: l, j + 1 => by simp [map_erase f l j]
theorem filter_erase {D : List (Int × α)} {k : Int} {a : α} (hnd : (D.map (·.1)).Nodup) {j : Nat} (hj : D[j]? = some (k, a)) : D.eraseIdx j = dDel D k := by
  induction D generalizing j with
  | nil => simp at hj
  | cons q D ih =>
    simp only [List.map_cons, List.nodup_cons] at hnd
    cases j with
    | zero =>
      simp at hj
      subst hj
      have : D.filter (fun q => !decide (q.1 = k)) = D := List.filter_eq_self.2 fun q hq => by
        have : q.1 ≠ k := fun e => hnd.1 (e ▸ List.mem_map.2 ⟨q, hq, rfl⟩)
        simp [this]
      simp [dDel, this]
    | succ j =>
      have hj' : D[j]? = some (k, a) := by simpa using hj
      have hne : q.1 ≠ k := fun e => hnd.1 (e ▸ List.mem_map.2 ⟨(k, a), List.mem_of_getElem? hj', rfl⟩)
      simp only [List.eraseIdx_cons_succ, ih hnd.2 hj']
      simp [dDel, hne]
theorem MapIs.erase (M : MapIs enc D es clock) {k : Int} {a : α} {j : Nat} (hj : D[j]? = some (k, a)) : MapIs enc (dDel D k) (es.eraseIdxIfInBounds j) clock := by
  refine ⟨?_, stamped_erase M.stamped j, fun q hq => M.wf q (List.mem_filter.1 hq).1⟩
  have hl := (List.getElem?_eq_some_iff.1 hj).1
  have hsz : es.size = D.length := by have := congrArg List.length M.ents; simpa using this
  unfold Array.eraseIdxIfInBounds
  rw [dif_pos (by omega)]
  rw [Array.toList_eraseIdx, ← filter_erase M.nodup hj, map_erase, map_erase, M.ents]
theorem MapIs.size (M : MapIs enc D es clock) : es.size = D.length := by have := congrArg List.length M.ents; simpa using this
theorem MapIs.nil : MapIs enc ([] : List (Int × α)) #[] 0 := ⟨rfl, stamped_empty 0, fun q hq => by cases hq⟩
end

/-- The stretch is a map. -/
abbrev mapX {α : Type} (enc : α → Value) (D : List (Int × α)) : Ext where
  inv := fun p S w => (∀ b, S b ↔ b = p.1) ∧ ∃ es clock, w.heap[p.1]? = some (.map es clock) ∧ MapIs enc D es clock
  keep := fun h hb => ⟨h.1, by obtain ⟨es, clock, h1, h2⟩ := h.2; exact ⟨es, clock, (hb _ ((h.1 _).2 rfl)).trans h1, h2⟩⟩
theorem mapX_selfish {α : Type} {enc : α → Value} {D : List (Int × α)} : Selfish (mapX enc D) := fun p S w h => (h.1 _).2 rfl
abbrev mapC {α : Type} (enc : α → Value) (D : List (Int × α)) : Chunk := @Chunk.mk (mapX enc D) true 0 []

section
variable {P : Program} {G : Tys} {α : Type} {enc : α → Value} {D : List (Int × α)}
theorem run_zero {et : TypeId} {ei : TypeInfo} {z : Value} (he : P.info? et = some ei) (hz : ei.zero = some z) (w : World) : (zeroValue et).run P w = .ok z w := by
  simp [zeroValue, typeInfo, Sem.run_bind, run_program, Result.andThen_ok, he, hz]
theorem run_look {t kt et : TypeId} {ei : TypeInfo} {z : Value} {es : Array MapEntry} {clock : Nat} {w : World} {b : Nat} (ht : P.underlying t = some (.map kt et)) (hk : P.underlying kt = some (.int .i64)) (he : P.info? et = some ei) (hz : ei.zero = some z)
    (hb : w.heap[b]? = some (.map es clock)) (M : MapIs enc D es clock) (k : Int) (c : Bool) :
    (Instr.lookup t (.map (some b)) (.int .i64 k) c).run P w = .ok (if c then .tuple #[((dGet D k).map enc).getD z, .bool (dGet D k).isSome] else ((dGet D k).map enc).getD z) w := by
  rcases M.find k with ⟨h1, h2, _⟩ | ⟨j, a, h1, _, _, h2⟩
  · simp [Instr.lookup, run_underlying ht, MapKept.run_getObj_map hb, run_checkKey hk (k := .int .i64 k) rfl, run_findKey hk h2, run_zero he hz, h1, Result.andThen]
  · simp [Instr.lookup, run_underlying ht, MapKept.run_getObj_map hb, run_checkKey hk (k := .int .i64 k) rfl, run_findKey hk h2, h1, Result.andThen]
theorem N_look {t kt et : TypeId} {ei : TypeInfo} {z : Value} {c : Chunk} {k : Int} {b : Bool} {K : Value → Prop} (enc : α → Value) (D : List (Int × α)) (hc : c.x = mapX enc D) (ht : P.underlying t = some (.map kt et)) (hk : P.underlying kt = some (.int .i64)) (he : P.info? et = some ei) (hz : ei.zero = some z)
    (v : Value) (hv : v = (if b then .tuple #[((dGet D k).map enc).getD z, .bool (dGet D k).isSome] else ((dGet D k).map enc).getD z)) (hp : plain3 v = true) (h : K v) : N (LookN P t c (.int .i64 k) b K) :=
  N.mk ⟨v, den_plain3 hp, fun p S w hi => by
    rw [hc] at hi
    obtain ⟨_, es, clock, hb, M⟩ := hi
    rw [run_look ht hk he hz hb M k b, hv], h⟩
theorem turns_put {t kt et : TypeId} {c : Chunk} {k : Int} {a : α} {v : Value} (hc : c.x = mapX enc D) (ho : c.own = true) (hkk : -9223372036854775808 ≤ k ∧ k ≤ 9223372036854775807) (hv : v = enc a) (ht : P.underlying t = some (.map kt et)) (hk : P.underlying kt = some (.int .i64)) :
    Turns P c (mapC enc (dPut D k a)) (fun b => Instr.mapUpdate t (.map (some b)) (.int .i64 k) v) () := by
  refine ⟨fun _ => ho, rfl, fun p S w hi => ?_⟩
  rw [hc] at hi
  obtain ⟨hS, es, clock, hb, M⟩ := hi
  refine ⟨(hS _).2 rfl, ?_⟩
  have hlt : p.1 < w.heap.size := (Array.getElem?_eq_some_iff.1 hb).1
  rcases M.find k with ⟨h1, h2, h3⟩ | ⟨j, a', h1, hj, ⟨e, he1, he2⟩, h2⟩
  · refine ⟨{ w with heap := w.heap.setIfInBounds p.1 (.map (es.push { key := .int .i64 k, val := v, born := clock }) (clock + 1)) }, ?_, rfl, rfl, rfl, by simp, fun b hne => by simp [Ne.symm hne], hS, _, _, (heap_set hb).1, ?_⟩
    · simp [Instr.mapUpdate, run_underlying ht, MapKept.run_getObj_map hb, run_checkKey hk (k := .int .i64 k) rfl, run_findKey hk h2, MapKept.run_setObj_map _ hb, Result.andThen]
    · rw [hv]; exact M.push hkk a h1 h3
  · refine ⟨{ w with heap := w.heap.setIfInBounds p.1 (.map (es.modify j fun e => { e with key := .int .i64 k, val := v }) clock) }, ?_, rfl, rfl, rfl, by simp, fun b hne => by simp [Ne.symm hne], hS, _, _, (heap_set hb).1, ?_⟩
    · have hj2 : es[j]? = some e := by rw [← Array.getElem?_toList]; exact he1
      simp [Instr.mapUpdate, run_underlying ht, MapKept.run_getObj_map hb, run_checkKey hk (k := .int .i64 k) rfl, run_findKey hk h2, hj2, he2, run_keyThatStays (d := .int .i64) (k := .int .i64 k) rfl, MapKept.run_setObj_map _ hb, Result.andThen]
    · exact M.put hkk a h1 hj v hv
theorem turns_del {t kt et ty : TypeId} {ts : Array TypeId} {c : Chunk} {k : Int} (hc : c.x = mapX enc D) (ho : c.own = true) (hts : ts[0]? = some t) (ht : P.underlying t = some (.map kt et)) (hk : P.underlying kt = some (.int .i64)) :
    Turns P c (mapC enc (dDel D k)) (fun b => Builtin.delete_ ts ty #[.map (some b), .int .i64 k]) (.tuple #[]) := by
  refine ⟨fun _ => ho, rfl, fun p S w hi => ?_⟩
  rw [hc] at hi
  obtain ⟨hS, es, clock, hb, M⟩ := hi
  refine ⟨(hS _).2 rfl, ?_⟩
  have hlt : p.1 < w.heap.size := (Array.getElem?_eq_some_iff.1 hb).1
  rcases M.find k with ⟨h1, h2, h3⟩ | ⟨j, a', h1, hj, _, h2⟩
  · refine ⟨{ w with heap := w.heap.setIfInBounds p.1 (.map es clock) }, ?_, rfl, rfl, rfl, by simp, fun b hne => by simp [Ne.symm hne], hS, _, _, (heap_set hb).1, ?_⟩
    · simp [Builtin.delete_, hts, run_underlying ht, MapKept.run_getObj_map hb, run_checkKey hk (k := .int .i64 k) rfl, run_findKey hk h2, MapKept.run_setObj_map _ hb, Result.andThen]
    · have : dDel D k = D := List.filter_eq_self.2 fun q hq => by simp [dGet_none.1 h1 q hq]
      rw [this]; exact M
  · refine ⟨{ w with heap := w.heap.setIfInBounds p.1 (.map (es.eraseIdxIfInBounds j) clock) }, ?_, rfl, rfl, rfl, by simp, fun b hne => by simp [Ne.symm hne], hS, _, _, (heap_set hb).1, M.erase hj⟩
    simp [Builtin.delete_, hts, run_underlying ht, MapKept.run_getObj_map hb, run_checkKey hk (k := .int .i64 k) rfl, run_findKey hk h2, MapKept.run_setObj_map _ hb, Result.andThen]
theorem N_put {t kt et : TypeId} {c : Chunk} {k : Int} {v : Value} {K : Chunk → Prop} (enc : α → Value) (D : List (Int × α)) (a : α) (hc : c.x = mapX enc D) (ho : c.own = true) (hkk : -9223372036854775808 ≤ k ∧ k ≤ 9223372036854775807) (hv : v = enc a) (ht : P.underlying t = some (.map kt et)) (hk : P.underlying kt = some (.int .i64))
    (h : K (mapC enc (dPut D k a))) : N (TurnN P c (fun b => Instr.mapUpdate t (.map (some b)) (.int .i64 k) v) K) := N.mk ⟨_, turns_put hc ho hkk hv ht hk, h⟩
theorem N_del {t kt et ty : TypeId} {ts : Array TypeId} {c : Chunk} {k : Int} {A : Chunk → Prop} (enc : α → Value) (D : List (Int × α)) (hc : c.x = mapX enc D) (ho : c.own = true) (hts : ts[0]? = some t) (ht : P.underlying t = some (.map kt et)) (hk : P.underlying kt = some (.int .i64))
    (h : A (mapC enc (dDel D k))) : N (TurnV P c (fun b => Builtin.delete_ ts ty #[.map (some b), .int .i64 k]) fun v d => N (Obl (v = .tuple #[]) (A d))) :=
  N.mk ⟨.tuple #[], _, fun ρ => by simp [den], turns_del hc ho hts ht hk, N.obl rfl h⟩
theorem N_lenM {t kt et ty : TypeId} {ts : Array TypeId} {c : Chunk} {K : Value → Prop} (enc : α → Value) (D : List (Int × α)) (hc : c.x = mapX enc D) (hts : ts[0]? = some t) (ht : P.underlying t = some (.map kt et)) (h : K (.int .i64 (D.length : Nat))) : N (LenMN P ts ty c K) :=
  N.mk ⟨.int .i64 (D.length : Nat), fun ρ => by simp [den, den2, den1, den0], fun p S w hi => by
    rw [hc] at hi
    obtain ⟨_, es, clock, hb, M⟩ := hi
    simp [Builtin.len_, hts, run_underlying ht, MapKept.run_getObj_map hb, Result.andThen, M.size, goInt], h⟩
theorem N_mkMap {K : Chunk → Prop} (enc : α → Value) (h : K (mapC enc [])) : N (MkMapN K) :=
  N.mk ⟨mapC enc [], rfl, fun w => ⟨fun b => Iff.rfl, #[], 0, (heap_alloc w (.map #[] 0)).1, MapIs.nil⟩, h⟩
end
end Go.Proofs.YtdnkeeedcnjofaaGreatDoor.Sx


/-
  Stretches packed into one: what lies behind a pointer, told by a list of stretches; families of like stretches; real addresses.
-/
set_option linter.unusedVariables false
set_option linter.unusedSimpArgs false
namespace Go.Proofs.YtdnkeeedcnjofaaGreatDoor.Sx
open Go Go.RowKit

/-! ### Real addresses -/
/-- The stretch lies at q. -/
abbrev atX (q : Nat × Nat) : Ext where
  inv := fun p S _ => p = q ∧ ∀ b, ¬ S b
  keep := fun h _ => h
/-- The pointer to a stretch's cell, as it is. -/
def realP (q : Nat × Nat) : Value := .pointer (some ⟨q.1, q.2, none⟩)
theorem realP_den {q : Nat × Nat} {ρ : Nat → Nat × Nat} : den ρ (realP q) = realP q := rfl

/-! ### Families -/
/-- Stretches of n cells each, at real addresses, none in another's block. -/
structure FamOK {α : Type} (n : Nat) (enc : α → Nat → Value) (F : List ((Nat × Nat) × α)) (S : Nat → Prop) (w : World) : Prop where
  dom : ∀ b, S b ↔ ∃ q ∈ F, q.1.1 = b
  nodup : (F.map (·.1.1)).Nodup
  cell : ∀ q ∈ F, ∀ j, j < n → w.cell? ⟨q.1.1, q.1.2 + j, none⟩ = some (enc q.2 j) ∧ w.frozen? ⟨q.1.1, q.1.2 + j, none⟩ = false
abbrev famX {α : Type} (n : Nat) (enc : α → Nat → Value) (F : List ((Nat × Nat) × α)) : Ext where
  inv := fun _ S w => FamOK n enc F S w
  keep := fun {p S w w'} h hb => ⟨h.dom, h.nodup, fun q hq j hj => by
    obtain ⟨h1, h2⟩ := h.cell q hq j hj
    have e := hb q.1.1 ((h.dom _).2 ⟨q, hq, rfl⟩)
    refine ⟨?_, ?_⟩
    · rw [← h1]; unfold World.cell?; simp only [e]
    · rw [← h2]; unfold World.frozen?; simp only [e]⟩

/-! ### Packs -/
structure PackOK (ρ : Nat → Nat × Nat) (h : List (Option Chunk)) (w : World) (S : Nat → Prop) (T : Nat → Nat → Prop) : Prop where
  blk : ∀ (k : Nat) (d : Chunk), h[k]? = some (some d) → S (ρ k).1
  cell : ∀ (k : Nat) (d : Chunk), h[k]? = some (some d) → ∀ j, j < d.n → ∃ x, w.cell? ⟨(ρ k).1, (ρ k).2 + j, none⟩ = some x ∧ Den1 (Fil h) ρ (d.f j) x
  own : ∀ (k : Nat) (d : Chunk), h[k]? = some (some d) → ∀ j, j < d.n → w.frozen? ⟨(ρ k).1, (ρ k).2 + j, none⟩ = false
  inv : ∀ (k : Nat) (d : Chunk), h[k]? = some (some d) → d.x.inv (ρ k) (T k) w
  foot : ∀ (k : Nat) (d : Chunk) (b : Nat), h[k]? = some (some d) → T k b → S b ∧ (d.n = 0 ∨ b ≠ (ρ k).1)
  sep : ∀ (k : Nat) (d : Chunk) (l : Nat) (e : Chunk), h[k]? = some (some d) → h[l]? = some (some e) → k ≠ l → (ρ k).1 ≠ (ρ l).1 ∧ ∀ b, T k b → (ρ l).1 ≠ b ∧ ¬ T l b
abbrev packX {B : Type} (ok : B → Prop) (h : B → List (Option Chunk)) : Ext where
  inv := fun p S w => S p.1 ∧ ∃ β, ok β ∧ ∃ ρ T, ρ 0 = p ∧ Fil (h β) 0 ∧ PackOK ρ (h β) w S T
  keep := fun {p S w w'} hh hb => ⟨hh.1, by
    obtain ⟨β, hβ, ρ, T, h0, hf, K⟩ := hh.2
    refine ⟨β, hβ, ρ, T, h0, hf, K.blk, fun k d hk j hj => ?_, fun k d hk j hj => ?_, fun k d hk => ?_, K.foot, K.sep⟩
    · obtain ⟨x, hx, hd⟩ := K.cell k d hk j hj
      refine ⟨x, ?_, hd⟩
      have e := hb _ (K.blk k d hk)
      rw [← hx]; unfold World.cell?; simp only [e]
    · have e := hb _ (K.blk k d hk)
      rw [← K.own k d hk j hj]; unfold World.frozen?; simp only [e]
    · exact d.x.keep (K.inv k d hk) fun b hT => hb b (K.foot k d b hk hT).1⟩
theorem packX_selfish {B : Type} {ok : B → Prop} {h : B → List (Option Chunk)} : Selfish (packX ok h) := fun p S w hh => hh.1
abbrev packC {B : Type} (ok : B → Prop) (h : B → List (Option Chunk)) : Chunk := @Chunk.mk (packX ok h) true 0 []

/-- A callee with one argument that is a pack begins with what is in it. -/
theorem pack_opens {B : Type} {ok : B → Prop} {h : B → List (Option Chunk)} {i : Nat} {c d : Chunk} : Opens [⟨i, c, packC ok h, d⟩] ok h := fun X ρ w T H => by
  obtain ⟨S, E⟩ := H.ext
  have h0 : (partH [⟨i, c, packC ok h, d⟩])[0]? = some (some (packC ok h)) := rfl
  have one : ∀ (k : Nat) (e : Chunk), (partH [⟨i, c, packC ok h, d⟩])[k]? = some (some e) → k = 0 := fun k e hk => by
    cases k with
    | zero => rfl
    | succ k => simp [partH] at hk
  obtain ⟨_, β, hβ, ρp, Tp, e0, hf, K⟩ := E.inv 0 _ h0
  have n0 : X.n0 = 1 := T.n0
  refine ⟨β, hβ, ρp, fun k hk => ?_, fun k hk => ?_, ?_⟩
  · obtain ⟨e, he⟩ := hk
    obtain rfl := one k e he
    exact e0
  · obtain ⟨e, he⟩ := hk
    obtain rfl := one k e he
    exact hf
  · refine H.redo E (fun k => k = 0) (fun _ => True) (S 0) (fun b hb => ⟨0, _, rfl, h0, .inr hb⟩) (fun b hb => (E.mine 0 _ b h0 hb).2.2) (fun k hk => ?_) (fun k e hk hA => absurd trivial hA) (fun k e hk _ => ⟨K.blk k e hk, K.cell k e hk, fun _ => K.own k e hk, K.inv k e hk, fun b hb => K.foot k e b hk hb⟩) (fun k e l f hk _ hl _ hne => ⟨fun _ => (K.sep k e l f hk hl hne).1, (K.sep k e l f hk hl hne).2⟩)
    rw [n0] at hk
    obtain rfl : k = 0 := by omega
    exact ⟨hf, e0⟩

/-! ### Closing a pack at a callee's end -/
def closeH (pc : Chunk) (m : Nat) (keep : List Nat) : List (Option Chunk) → Nat → List (Option Chunk)
  | [], _ => []
  | x :: r, i => (match Nat.beq i m with
    | true => some pc
    | false => match keep.any (Nat.beq i) with
      | true => x
      | false => none) :: closeH pc m keep r (i + 1)
theorem closeH_get {pc : Chunk} {m : Nat} {keep : List Nat} : ∀ {h : List (Option Chunk)} {i0 k : Nat} {d : Chunk}, (closeH pc m keep h i0)[k]? = some (some d) → (i0 + k = m ∧ d = pc) ∨ (i0 + k ≠ m ∧ i0 + k ∈ keep ∧ h[k]? = some (some d))
  | [], i0, k, d, hk => by simp [closeH] at hk
  | x :: r, i0, 0, d, hk => by
    simp only [closeH, List.getElem?_cons_zero, Option.some.injEq] at hk
    cases e : Nat.beq i0 m with
    | true =>
      rw [e] at hk
      exact .inl ⟨Nat.eq_of_beq_eq_true e, by simpa using hk.symm⟩
    | false =>
      rw [e] at hk
      simp only at hk
      cases e2 : keep.any (Nat.beq i0) with
      | true =>
        rw [e2] at hk
        refine .inr ⟨fun e3 => ?_, ?_, by simp only at hk; rw [hk]; rfl⟩
        · have : i0 = m := e3
          rw [this, Nat.beq_refl] at e; cases e
        · rw [List.any_eq_true] at e2
          obtain ⟨y, hy, he⟩ := e2
          have := Nat.eq_of_beq_eq_true he
          show i0 ∈ keep
          rw [this]; exact hy
      | false => rw [e2] at hk; cases hk
  | x :: r, i0, k + 1, d, hk => by
    have := closeH_get (h := r) (i0 := i0 + 1) (k := k) (d := d) (by simpa [closeH] using hk)
    rw [show i0 + (k + 1) = i0 + 1 + k from by omega]
    rcases this with h1 | ⟨h1, h2, h3⟩
    · exact .inl h1
    · exact .inr ⟨h1, h2, by simpa using h3⟩
theorem closeH_fil {pc : Chunk} {m : Nat} {keep : List Nat} : ∀ {h : List (Option Chunk)} {i0 k : Nat}, k < h.length → (i0 + k = m ∨ (i0 + k ∈ keep ∧ Fil h k)) → Fil (closeH pc m keep h i0) k
  | [], i0, k, hl, _ => by simp at hl
  | x :: r, i0, 0, _, hk => by
    simp only [closeH, Fil, List.getElem?_cons_zero]
    cases e : Nat.beq i0 m with
    | true => exact ⟨pc, rfl⟩
    | false =>
      rcases hk with hk | ⟨hk, hf⟩
      · have hk : i0 = m := hk
        rw [hk, Nat.beq_refl] at e; cases e
      · have : keep.any (Nat.beq i0) = true := List.any_eq_true.2 ⟨i0, hk, Nat.beq_refl _⟩
        simp only [this]
        obtain ⟨c, hc⟩ := hf
        exact ⟨c, by simpa using hc⟩
  | x :: r, i0, k + 1, hl, hk => by
    obtain ⟨c, hc⟩ := closeH_fil (pc := pc) (m := m) (keep := keep) (h := r) (i0 := i0 + 1) (k := k) (by simpa using hl) (by
      rw [show i0 + 1 + k = i0 + (k + 1) from by omega]
      exact hk.imp id fun ⟨h1, c, h2⟩ => ⟨h1, c, by simpa using h2⟩)
    exact ⟨c, by simpa [closeH] using hc⟩
/-- What the stretches of a pack are at the callee's end: k with the pack, i with the callee. -/
def PackFrom (ix : List (Nat × Nat)) (h hp : List (Option Chunk)) : Prop :=
  ∀ (k : Nat) (d : Chunk), hp[k]? = some (some d) → ∃ i c, ixK ix k = some i ∧ h[i]? = some (some c) ∧ c.own = true ∧ d.n ≤ c.n ∧ (∀ j, j < d.n → Re1 ix (c.f j) (d.f j)) ∧ (d.x = Ext.none ∨ d.x = c.x) ∧ (0 < c.n ∨ Selfish c.x)
def packB : List (Option Chunk) → List (Nat × Nat) → Bool
  | _, [] => true
  | hp, (k, i) :: r => filB hp k && packB hp r
theorem packB_out {hp : List (Option Chunk)} : ∀ {ix : List (Nat × Nat)}, packB hp ix = true → ∀ k i, (k, i) ∈ ix → Fil hp k
  | (a, b) :: r, h, k, i, hm => by
    simp only [packB, Bool.and_eq_true] at h
    rcases List.mem_cons.1 hm with e | hm
    · simp only [Prod.mk.injEq] at e
      obtain ⟨rfl, rfl⟩ := e
      exact filB_iff.1 h.1
    · exact packB_out h.2 k i hm
/-- No number stands twice, neither on the left nor on the right. -/
def ixOne : List (Nat × Nat) → Bool
  | [] => true
  | (k, i) :: r => (r.all fun p => !Nat.beq p.1 k && !Nat.beq p.2 i) && ixOne r
theorem ixOne_out : ∀ {ix : List (Nat × Nat)}, ixOne ix = true → ∀ k i k' i', (k, i) ∈ ix → (k', i') ∈ ix → (k = k' ∨ i = i') → k = k' ∧ i = i'
  | (a, b) :: r, h, k, i, k', i', h1, h2, he => by
    simp only [ixOne, Bool.and_eq_true, List.all_eq_true] at h
    have key : ∀ x y, (x, y) ∈ r → x ≠ a ∧ y ≠ b := fun x y hm => by
      have := h.1 (x, y) hm
      simp only [Bool.not_eq_true'] at this
      exact ⟨fun e => by subst e; simp at this, fun e => by subst e; simp at this⟩
    rcases List.mem_cons.1 h1 with e1 | h1 <;> rcases List.mem_cons.1 h2 with e2 | h2
    · simp only [Prod.mk.injEq] at e1 e2; omega
    · simp only [Prod.mk.injEq] at e1
      have := key k' i' h2; omega
    · simp only [Prod.mk.injEq] at e2
      have := key k i h1; omega
    · exact ixOne_out h.2 k i k' i' h1 h2 he
theorem closeN {B : Type} {ok : B → Prop} {hB : B → List (Option Chunk)} {ss : List Piece} {h : List (Option Chunk)} {v : Value} {K : Value → List (Option Chunk) → Prop} (β : B) (m : Nat) (ix : List (Nat × Nat)) (keep : List Nat) (hpc : ∀ k i, (k, i) ∈ ix → i < ss.length → ∃ s, ss[i]? = some s ∧ s.e.x ≠ Ext.none ∧ Selfish s.e.x) (hbs : ∀ i, i < ss.length → i = m ∨ i ∈ keep) (hok : ok β) (h00 : ixK ix 0 = some m) (hf0 : Fil (hB β) 0) (hone : ixOne ix = true) (hpb : packB (hB β) ix = true)
    (hpk : PackFrom ix h (hB β)) (hkk : ∀ k ∈ keep, ∀ l i, (l, i) ∈ ix → k ≠ i) (hkd : ∀ k ∈ keep, ∀ (d : Chunk), h[k]? = some (some d) → ∀ j, j < d.n → Safe1 (closeH (packC ok hB) m keep h 0) (d.f j))
    (hv : ∀ ρ ρ', AgreeOn (Fil (closeH (packC ok hB) m keep h 0)) ρ ρ' → den ρ' v = den ρ v) (hlt : m < h.length) (kk : K v (closeH (packC ok hB) m keep h 0)) : N (EndN ss h v K) := N.mk fun X ρ w x T H hd => by
  obtain ⟨S, E⟩ := H.ext
  have fil0 : Fil (closeH (packC ok hB) m keep h 0) m := closeH_fil hlt (.inl (Nat.zero_add m))
  have inv : ∀ k d, (hB β)[k]? = some (some d) → ∃ i c, (k, i) ∈ ix ∧ h[i]? = some (some c) ∧ c.own = true ∧ d.n ≤ c.n ∧ (∀ j, j < d.n → Re1 ix (c.f j) (d.f j)) ∧ (d.x = Ext.none ∨ d.x = c.x) ∧ (0 < c.n ∨ Selfish c.x) := fun k d hk => by
    obtain ⟨i, c, h1, h2⟩ := hpk k d hk
    exact ⟨i, c, ixK_mem h1, h2⟩
  have ofix : ∀ k i, (k, i) ∈ ix → ∃ d, (hB β)[k]? = some (some d) := fun k i hm => packB_out hpb k i hm
  have act : ∀ k i, (k, i) ∈ ix → ∃ d c, (hB β)[k]? = some (some d) ∧ h[i]? = some (some c) ∧ c.own = true ∧ d.n ≤ c.n ∧ (∀ j, j < d.n → Re1 ix (c.f j) (d.f j)) ∧ (d.x = Ext.none ∨ d.x = c.x) ∧ (0 < c.n ∨ Selfish c.x) := fun k i hm => by
    obtain ⟨d, hd⟩ := ofix k i hm
    obtain ⟨i', c, hm', h2⟩ := inv k d hd
    obtain rfl := (ixOne_out hone k i k i' hm hm' (.inl rfl)).2
    exact ⟨d, c, hd, h2⟩
  have mayB : ∀ k i, (k, i) ∈ ix → May X (ρ i).1 := fun k i hm => by
    obtain ⟨d, c, _, hc, ho, _, _, _, h3⟩ := act k i hm
    rcases h3 with h3 | h3
    · by_cases e : i < ss.length
      · obtain ⟨s, hs, hx, hsf⟩ := hpc k i hm e
        exact T.mayX H hs hx hsf
      · exact T.may H hc ho h3 (by omega)
    · exact (E.mine i c _ hc (h3 _ _ _ (E.inv i c hc))).2.2
  let ρp : Nat → Nat × Nat := fun k => match ixK ix k with | some i => ρ i | none => (0, 0)
  let Tp : Nat → Nat → Prop := fun k b => ∃ i d, (k, i) ∈ ix ∧ (hB β)[k]? = some (some d) ∧ d.x ≠ Ext.none ∧ S i b
  have ixKof : ∀ k i, (k, i) ∈ ix → ixK ix k = some i := fun k i hm => by
    obtain ⟨d, hd⟩ := ofix k i hm
    obtain ⟨i', c, h1, _⟩ := hpk k d hd
    rw [(ixOne_out hone k i k i' hm (ixK_mem h1) (.inl rfl)).2]; exact h1
  have ρp_eq : ∀ k i, (k, i) ∈ ix → ρp k = ρ i := fun k i hm => by
    show (match ixK ix k with | some i => ρ i | none => (0, 0)) = ρ i
    rw [ixKof k i hm]
  let F : Nat → Prop := fun b => ∃ k i, (k, i) ∈ ix ∧ (b = (ρ i).1 ∨ Tp k b)
  have Tp_eq : ∀ k i d, (k, i) ∈ ix → (hB β)[k]? = some (some d) → d.x ≠ Ext.none → Tp k = S i := fun k i d hm hd hne => by
    funext b
    refine propext ⟨?_, fun hb => ⟨i, d, hm, hd, hne, hb⟩⟩
    rintro ⟨i', _, hm', _, _, hb⟩
    rw [(ixOne_out hone k i k i' hm hm' (.inl rfl)).2]; exact hb
  have TpS : ∀ k i b, (k, i) ∈ ix → Tp k b → S i b := fun k i b hm hb => by
    obtain ⟨i', _, hm', _, _, hb'⟩ := hb
    rw [(ixOne_out hone k i k i' hm hm' (.inl rfl)).2]; exact hb'
  have K1 : PackOK ρp (hB β) w F Tp := by
    refine ⟨fun k d hk => ?_, fun k d hk j hj => ?_, fun k d hk j hj => ?_, fun k d hk => ?_, fun k d b hk hb => ?_, fun k d l e hk hl hne => ?_⟩
    · obtain ⟨i, c, hm, _⟩ := inv k d hk
      exact ⟨k, i, hm, .inl (by rw [ρp_eq k i hm])⟩
    · obtain ⟨i, c, hm, hc, ho, hn, hr, _⟩ := inv k d hk
      obtain ⟨y, hy, hdy⟩ := H.cell i c hc j (Nat.lt_of_lt_of_le hj hn)
      rw [ρp_eq k i hm]
      refine ⟨y, hy, fun r hrr => ?_⟩
      rw [← (hr j hj).den (r := ρ) (r' := r) (fun k' i' hm' => by
        obtain ⟨d', hd'⟩ := ofix k' i' hm'
        rw [hrr k' ⟨d', hd'⟩, ρp_eq k' i' hm'])]
      exact hdy.self
    · obtain ⟨i, c, hm, hc, ho, hn, _⟩ := inv k d hk
      rw [ρp_eq k i hm]
      exact (H.own i c hc ho j (Nat.lt_of_lt_of_le hj hn)).1
    · obtain ⟨i, c, hm, hc, ho, hn, _, hx', _⟩ := inv k d hk
      by_cases en : d.x = Ext.none
      · rw [en]
        rintro b ⟨i', d', _, hd', hne, _⟩
        rw [hk] at hd'
        obtain rfl : d = d' := by simpa using hd'
        exact hne en
      · rw [Tp_eq k i d hm hk en, ρp_eq k i hm]
        rcases hx' with e | e
        · exact absurd e en
        · rw [e]; exact E.inv i c hc
    · obtain ⟨i, c, hm, hc, ho, hn, _⟩ := inv k d hk
      refine ⟨⟨k, i, hm, .inr hb⟩, ?_⟩
      have := (E.mine i c b hc (TpS k i b hm hb)).1
      rw [ρp_eq k i hm]; omega
    · obtain ⟨i, c, hm, hc, ho, _⟩ := inv k d hk
      obtain ⟨i2, c2, hm2, hc2, ho2, _⟩ := inv l e hl
      have hii : i ≠ i2 := fun ei => hne (ixOne_out hone k i l i2 hm hm2 (.inr ei)).1
      refine ⟨by rw [ρp_eq k i hm, ρp_eq l i2 hm2]; exact H.sep i c i2 c2 hc ho hc2 hii, fun b hb => ?_⟩
      obtain ⟨a1, a2⟩ := E.apart i c b i2 c2 hc (TpS k i b hm hb) hc2 (Ne.symm hii)
      exact ⟨by rw [ρp_eq l i2 hm2]; exact a1, fun hb2 => a2 (TpS l i2 b hm2 hb2)⟩
  have m00 := ixK_mem h00
  have H' : HOK X ρ (closeH (packC ok hB) m keep h 0) w := by
    refine H.redo (T := fun k b => k = m ∧ F b) E (fun i => ∃ k, (k, i) ∈ ix) (fun k => k = m) F (fun b hb => ?_) (fun b hb => ?_) (fun i hi => ?_) (fun k d hk hA => ?_) (fun k d hk hA => ?_) (fun k d l e hk hA hl hB' hne => ?_)
    · obtain ⟨k, i, hm, hb⟩ := hb
      obtain ⟨d, c, hd, hc, ho, _⟩ := act k i hm
      rcases hb with hb | hb
      · exact ⟨i, c, ⟨k, hm⟩, hc, .inl ⟨ho, hb⟩⟩
      · exact ⟨i, c, ⟨k, hm⟩, hc, .inr (TpS k i b hm hb)⟩
    · obtain ⟨k, i, hm, hb⟩ := hb
      rcases hb with rfl | hb
      · exact mayB k i hm
      · obtain ⟨d, c, hd, hc, _⟩ := act k i hm
        exact (E.mine i c b hc (TpS k i b hm hb)).2.2
    · have hi : i < ss.length := by have := T.n0; omega
      rcases hbs i hi with rfl | h1
      · exact ⟨fil0, rfl⟩
      · have hf := (H.base i (by have := T.n0; omega)).1
        obtain ⟨c, hc⟩ := hf
        exact ⟨closeH_fil (List.getElem?_eq_some_iff.1 hc).1 (.inr ⟨by rw [Nat.zero_add]; exact h1, c, hc⟩), rfl⟩
    · rcases closeH_get hk with ⟨h1, _⟩ | ⟨h1, h2, h3⟩
      · exact absurd (by omega) hA
      · rw [Nat.zero_add] at h1 h2
        refine ⟨fun ⟨l, hm⟩ => hkk k h2 l k hm rfl, rfl, h3, fun j hj y hy r hrr => ?_⟩
        rw [(hkd k h2 d h3 j hj).inScope ρ r hrr]
        exact hy.self
    · subst hA
      rcases closeH_get hk with ⟨_, rfl⟩ | ⟨h1, _⟩
      · refine ⟨⟨0, k, m00, .inl rfl⟩, fun j hj => absurd hj (Nat.not_lt_zero j), fun _ j hj => absurd hj (Nat.not_lt_zero j), ⟨⟨rfl, 0, k, m00, .inl rfl⟩, β, hok, ρp, Tp, ρp_eq 0 k m00, hf0, ?_⟩, fun b hb => ⟨hb.2, .inl rfl⟩⟩
        have : (fun b => k = k ∧ F b) = F := by funext b; exact propext ⟨fun h => h.2, fun h => ⟨rfl, h⟩⟩
        rw [this]; exact K1
      · exact absurd (by omega) h1
    · exact absurd (hA.trans hB'.symm) hne
  refine ⟨v, _, ρ, H', fun r hrr => ?_, kk⟩
  rw [hv ρ r hrr]; exact hd.self
end Go.Proofs.YtdnkeeedcnjofaaGreatDoor.Sx


/-
  What ellip.Parse answers at what ellip.Text writes.
-/
set_option linter.unusedVariables false
set_option linter.unusedSimpArgs false
namespace Go.Proofs.YtdnkeeedcnjofaaGreatDoor
open Go Go.RowKit Sx

theorem App0N.mkq {cj : Chunk} {g m size bytes : Nat} {z : Value} {slot : Nat} {K : Value → List (Nat × Chunk) → Prop} (v : Value) (hr : Reads cj g true (m * size) v) (h0 : 0 < m) (h1 : m ≤ 9223372036854775807) (h2 : m * bytes ≤ 140737488355328)
    (k : ∀ cap, m ≤ cap → K (.slice (some ⟨slot, 0, some 0⟩) m cap) [(slot, grown ⟨true, 0, []⟩ 0 m size v z cap)]) : N (App0N cj g m size bytes z slot K) := N.mk (.inl ⟨v, hr, h0, h1, h2, k⟩)
theorem AppN.mkq {ci : Chunk} {k s l c : Nat} {cj : Chunk} {g m size bytes : Nat} {z : Value} {slot : Nat} {K : Value → List (Nat × Chunk) → Prop} (v : Value) (hr : Reads cj g true (m * size) v) (hf : flatB v (m * size) = true) (hl : l * size ≤ ci.n) (h1 : l + m ≤ 9223372036854775807) (h2 : (l + m) * bytes ≤ 140737488355328)
    (d : Chunk) (hw : l + m ≤ c → Writes ci (l * size) (m * size) v d) (k1 : l + m ≤ c → K (.slice (some ⟨k, 0, some s⟩) (l + m) c) [(k, d)]) (k2 : c < l + m → ∀ cap, l + m ≤ cap → K (.slice (some ⟨slot, 0, some 0⟩) (l + m) cap) [(slot, grown ci l m size v z cap)]) : N (AppN ci k s l c cj g m size bytes z slot K) :=
  N.mk ⟨v, hr, hf, hl, h1, h2, fun h => ⟨d, hw h, k1 h⟩, k2⟩
theorem nil_is (x : Operand) : BinIs Tryz.prog .neq 55 x (.const .nilIface) .nilIface .nilIface (.bool false) := ⟨rfl, rfl, rfl, fun w => by go_simp⟩
theorem str_same (x y : Operand) (a : ByteArray) : BinIs Tryz.prog .neq 9 x y (.string a) (.string a) (.bool false) := ⟨rfl, rfl, rfl, fun w => by go_simp⟩
theorem cSplit2 (W : World) (hW : TxOK W) (s a b : ByteArray) (hs : s.size < 4294967281) (h1 : Lib.countB s ⟨#[44]⟩ = 1) (h2 : Lib.splitB ⟨#[44]⟩ 0 1 s = [a, b]) (i K : Nat) (h : List (Option Chunk)) (hi : h[i]? = some (some (oldC W))) (hK : h[K]? = some none) :
    CallOK Tryz.prog 23 [.string s, .string ⟨#[44]⟩] h (.slice (some ⟨K, 0, some 0⟩) 2 2) [(K, ⟨true, 2, [(0, 2, .agg ⟨[.string a, .string b]⟩)]⟩)] [i] :=
  cSplit W hW s [a, b] hs (by rw [h1]; rfl) (by rw [h1]; exact h2) i K h hi hK
theorem cSplit3 (W : World) (hW : TxOK W) (s a b c : ByteArray) (hs : s.size < 4294967281) (h1 : Lib.countB s ⟨#[44]⟩ = 2) (h2 : Lib.splitB ⟨#[44]⟩ 0 2 s = [a, b, c]) (i K : Nat) (h : List (Option Chunk)) (hi : h[i]? = some (some (oldC W))) (hK : h[K]? = some none) :
    CallOK Tryz.prog 23 [.string s, .string ⟨#[44]⟩] h (.slice (some ⟨K, 0, some 0⟩) 3 3) [(K, ⟨true, 3, [(0, 3, .agg ⟨[.string a, .string b, .string c]⟩)]⟩)] [i] :=
  cSplit W hW s [a, b, c] hs (by rw [h1]; rfl) (by rw [h1]; exact h2) i K h hi hK
theorem reads_int1 (v : Int) : Reads ⟨true, 1, [(0, 1, .agg ⟨[.int .i64 v]⟩)]⟩ 0 true (1 * 1) (.agg ⟨[.int .i64 v]⟩) := ⟨Nat.le_refl _, _, rfl, rfl, fun j hj => by
  match j, hj with
  | 0, _ => rfl⟩
/-- A row of whole numbers, whatever lies behind them. -/
structure IntsIn (c : Chunk) (l : List Int) (cap : Nat) : Prop where
  own : c.own = true
  x : c.x = Ext.none
  n : c.n = cap
  le : l.length ≤ cap
  cell : ∀ j, j < l.length → c.f j = .int .i64 (l.getD j 0)
def pushC (c : Chunk) (o : Nat) (v : Int) : Chunk := @Chunk.mk Ext.none true c.n ((o, 1, .agg ⟨[.int .i64 v]⟩) :: c.ps)
theorem writes_push {c : Chunk} {l : List Int} {cap o n : Nat} (v : Int) (h : IntsIn c l cap) (ho : o = l.length) (hn : n = 1) (hc : o + 1 ≤ cap) : Writes c o n (.agg ⟨[.int .i64 v]⟩) (pushC c o v) := by
  subst hn
  refine ⟨h.own, by rw [h.n]; exact hc, ?_, fun j hj => ?_⟩
  · show (c.n, Ext.none) = (c.n, c.x); rw [h.x]
  · show cellOf ((o, 1, .agg ⟨[.int .i64 v]⟩) :: c.ps) j = _
    rw [cellOf_cons]; rfl
theorem ints_push {c : Chunk} {l : List Int} {cap o : Nat} (v : Int) (h : IntsIn c l cap) (ho : o = l.length) (hc : o + 1 ≤ cap) : IntsIn (pushC c o v) (l ++ [v]) cap := by
  subst ho
  refine ⟨rfl, rfl, h.n, by simpa using hc, fun j hj => ?_⟩
  show cellOf ((l.length, 1, .agg ⟨[.int .i64 v]⟩) :: c.ps) j = _
  rw [cellOf_cons]
  rcases Nat.lt_or_ge j l.length with h1 | h1
  · rw [if_neg (by omega), List.getD_eq_getElem?_getD, List.getElem?_append_left h1, ← List.getD_eq_getElem?_getD]
    exact h.cell j h1
  · obtain rfl : j = l.length := by have : j < (l ++ [v]).length := hj
                                    simp at this; omega
    rw [if_pos (by omega), Nat.sub_self, List.getD_eq_getElem?_getD, List.getElem?_append_right (Nat.le_refl _), Nat.sub_self]
    rfl
theorem ints_grown {c : Chunk} {l : List Int} {o cap2 size : Nat} {z : Value} (v : Int) (hl : ∀ j, j < l.length → c.f j = .int .i64 (l.getD j 0)) (ho : o = l.length) (hs : size = 1) (hc : o + 1 ≤ cap2) : IntsIn (grown c o 1 size (.agg ⟨[.int .i64 v]⟩) z cap2) (l ++ [v]) cap2 := by
  subst ho hs
  refine ⟨rfl, rfl, Nat.mul_one _, by simpa using hc, fun j hj => ?_⟩
  rcases Nat.lt_or_ge j l.length with h1 | h1
  · rw [grown_old (by omega), hl j h1, List.getD_eq_getElem?_getD, List.getD_eq_getElem?_getD, List.getElem?_append_left h1]
  · obtain rfl : j = l.length := by have : j < (l ++ [v]).length := hj
                                    simp at this; omega
    have := grown_new (ci := c) (l := l.length) (m := 1) (size := 1) (cap := cap2) (v := .agg ⟨[.int .i64 v]⟩) (z := z) (j := 0) (by decide)
    rw [Nat.mul_one, Nat.add_zero] at this
    rw [this, List.getD_eq_getElem?_getD, List.getElem?_append_right (Nat.le_refl _), Nat.sub_self]
    rfl
theorem post_ints {ix : List (Nat × Nat)} {h : List (Option Chunk)} {k n cap : Nat} {c : Chunk} {l : List Int} {vs : List Value} (hh : h[k]? = some (some c)) (hc : IntsIn c l cap) (hn : l.length = n) (hv : l.map (Value.int .i64) = vs) : PostC ix h k ⟨true, n, [(0, n, .agg ⟨vs⟩)]⟩ := by
  subst hn hv
  refine ⟨c, hh, fun _ => hc.own, by rw [hc.n]; exact hc.le, fun j hj => ?_⟩
  have hj : j < l.length := hj
  have e1 : (Chunk.f ⟨true, l.length, [(0, l.length, .agg ⟨l.map (Value.int .i64)⟩)]⟩ j) = .int .i64 (l.getD j 0) := by
    show cellOf [(0, l.length, .agg ⟨l.map (Value.int .i64)⟩)] j = _
    rw [cellOf_cons, if_pos (by omega), Nat.sub_zero]
    show (l.map (Value.int .i64)).getD j undef = _
    rw [List.getD_eq_getElem?_getD, List.getD_eq_getElem?_getD, List.getElem?_map, List.getElem?_eq_getElem hj]; rfl
  rw [e1, hc.cell j hj]
  exact .plain rfl
theorem CallAll.to2 {P : Program} {g : FuncId} {vs : List Value} {h : List (Option Chunk)} {R R' : Value → List (Nat × Chunk) → Prop} (k : CallAll P g vs h R) (hR : ∀ v ms, R v ms → R' v ms) : CallAll P g vs h R' := by
  intro X ρ w xs H hx
  rcases k X ρ w xs H hx with ⟨v, w', hr, u, ms, ρ', hq, ha⟩ | ⟨hr, hcl⟩
  · exact .inl ⟨v, w', hr, _, _, ρ', hR _ _ hq, ha⟩
  · refine .inr ⟨hr, hcl.mono ?_⟩
    rintro e w' ⟨y, he, u, ms, ρ', hq, ha⟩
    exact ⟨y, he, _, _, ρ', hR _ _ hq, ha⟩
set_option maxRecDepth 100000 in
set_option maxHeartbeats 2000000 in
theorem cNumbers2 (W : World) (hW : TxOK W) (s : ByteArray) (x y : Int) (hx : Fits x) (hy : Fits y) (hs : s.size < 4294967281) (h1 : Lib.countB s ⟨#[44]⟩ = 1) (h2 : Lib.splitB ⟨#[44]⟩ 0 1 s = [numB x, numB y]) (i K : Nat) (hiK : i ≠ K) (h : List (Option Chunk)) (hi : h[i]? = some (some (oldC W))) (hK : h[K]? = some none) :
    CallAll Tryz.prog 12 [.string s, .int .i64 2] h (fun v ms => ∃ c : Nat, v = .tuple #[.slice (some ⟨K, 0, some 0⟩) 2 c, .bool true] ∧ ms = [(i, oldC W), (K, ⟨true, 2, [(0, 2, .agg ⟨[.int .i64 x, .int .i64 y]⟩)]⟩)]) := by
  refine CallAll.to2 (call_resall (G := tys) (h := h) (vs := [.string s, .int .i64 2]) (fun _ : Unit => True) (fun _ => _) (α := Nat × Nat) (fun κ => 1 ≤ κ.1) (fun κ => .tuple #[.slice (some ⟨K, 0, some 0⟩) 2 κ.2, .bool true]) [⟨i, oldC W, oldC W, oldC W⟩] (fun κ => [oldC W]) (fun κ => [⟨K, κ.1, ⟨true, 2, [(0, 2, .agg ⟨[.int .i64 x, .int .i64 y]⟩)]⟩⟩]) [.string s, .int .i64 2] tysOK mixed Tryz.func12 (by rfl) (Tryz.call12) ⟨hi, trivial⟩ ⟨⟨fun h => ⟨rfl, Nat.le_refl _⟩, Nat.le_refl _, fun j hj => absurd hj (Nat.not_lt_zero j)⟩, trivial⟩ (fun κ _ => ⟨⟨fun h => ⟨rfl, Nat.le_refl _⟩, Nat.le_refl _, fun j hj => absurd hj (Nat.not_lt_zero j)⟩, trivial⟩) (by simp [Apart]) ⟨.inr ⟨rfl, rfl⟩, trivial⟩ (fun κ _ => ⟨⟨hK, rfl, .inl (by show 0 < 2; decide), by simp⟩, trivial⟩) ⟨.plain rfl, .plain rfl, trivial⟩ Opens.same ?_) ?_
  rotate_left
  · rintro v ms ⟨κ, hκ, rfl, rfl⟩
    exact ⟨κ.2, rfl, rfl⟩
  rintro ⟨⟩ -
  repeat' (refine N.go ?_; first | with_reducible refine N.obl (by decide) ?_ | with_reducible refine N.obl (flat_wi _ _ _) ?_ | with_reducible refine N.obl (flat_lim _ _) ?_ | with_reducible refine N.eq ?_ | with_reducible refine N.obl rfl ?_ | with_reducible refine N.obl ⟨by kernel_rfl, by kernel_rfl⟩ ?_ | with_reducible refine N.alt ?_ | with_reducible refine N.forkT ?_ | with_reducible refine N.forkF ?_ | refine N.call (cSplit2 W hW s (numB x) (numB y) hs h1 h2 0 1 _ (by rfl) (by rfl)) ?_ | refine N.call (cParse W hW x hx 0 _ (by rfl)) ?_ | refine N.call (cParse W hW y hy 0 _ (by rfl)) ?_ | refine N.call (cFmt W hW x hx 0 _ (by rfl)) ?_ | refine N.call (cFmt W hW y hy 0 _ (by rfl)) ?_ | refine N.roll 3 ?_ | refine N.bin _ (nil_is _) ?_ | refine N.bin _ (str_same _ _ _) ?_ | refine N.idx 0 0 (by decide) (by decide) ?_ | refine N.idx 1 0 (by decide) (by decide) ?_ | refine N.forkNo (by decide) ?_ | refine N.forkYes (by decide) ?_ | fail_if_success skip)
  refine N.go ?_
  refine App0N.mkq (.agg ⟨[.int .i64 x]⟩) (reads_int1 x) (by decide) (by decide) (by decide) fun cpA hcA => ?_
  have hA : IntsIn (grown ⟨true, 0, []⟩ 0 1 Tryz.t2.size (.agg ⟨[.int .i64 x]⟩) (.int .i64 0) cpA) [x] cpA := ints_grown (l := []) x (fun j hj => absurd hj (Nat.not_lt_zero j)) rfl rfl hcA
  generalize grown ⟨true, 0, []⟩ 0 1 Tryz.t2.size (.agg ⟨[.int .i64 x]⟩) (.int .i64 0) cpA = A at *
  repeat' (refine N.go ?_; first | with_reducible refine N.obl (by decide) ?_ | with_reducible refine N.obl (flat_wi _ _ _) ?_ | with_reducible refine N.obl (flat_lim _ _) ?_ | with_reducible refine N.eq ?_ | with_reducible refine N.obl rfl ?_ | with_reducible refine N.obl ⟨by kernel_rfl, by kernel_rfl⟩ ?_ | with_reducible refine N.alt ?_ | with_reducible refine N.forkT ?_ | with_reducible refine N.forkF ?_ | refine N.call (cSplit2 W hW s (numB x) (numB y) hs h1 h2 0 1 _ (by rfl) (by rfl)) ?_ | refine N.call (cParse W hW x hx 0 _ (by rfl)) ?_ | refine N.call (cParse W hW y hy 0 _ (by rfl)) ?_ | refine N.call (cFmt W hW x hx 0 _ (by rfl)) ?_ | refine N.call (cFmt W hW y hy 0 _ (by rfl)) ?_ | refine N.roll 3 ?_ | refine N.bin _ (nil_is _) ?_ | refine N.bin _ (str_same _ _ _) ?_ | refine N.idx 0 0 (by decide) (by decide) ?_ | refine N.idx 1 0 (by decide) (by decide) ?_ | refine N.forkNo (by decide) ?_ | refine N.forkYes (by decide) ?_ | fail_if_success skip)
  refine N.go ?_
  refine AppN.mkq (.agg ⟨[.int .i64 y]⟩) (reads_int1 y) rfl (by rw [hA.n]; show 1 * 1 ≤ _; omega) (by decide) (by decide) (pushC A 1 y) (fun h => writes_push y hA rfl rfl h) (fun hle => ?_) (fun hlt cpAo hcAo => ?_)
  · have hAi : IntsIn (pushC A 1 y) [x, y] cpA := ints_push y hA rfl hle
    generalize pushC A 1 y = Ai at *
    repeat' (refine N.go ?_; first | with_reducible refine N.obl (by decide) ?_ | with_reducible refine N.obl (flat_wi _ _ _) ?_ | with_reducible refine N.obl (flat_lim _ _) ?_ | with_reducible refine N.eq ?_ | with_reducible refine N.obl rfl ?_ | with_reducible refine N.obl ⟨by kernel_rfl, by kernel_rfl⟩ ?_ | with_reducible refine N.alt ?_ | with_reducible refine N.forkT ?_ | with_reducible refine N.forkF ?_ | refine N.call (cSplit2 W hW s (numB x) (numB y) hs h1 h2 0 1 _ (by rfl) (by rfl)) ?_ | refine N.call (cParse W hW x hx 0 _ (by rfl)) ?_ | refine N.call (cParse W hW y hy 0 _ (by rfl)) ?_ | refine N.call (cFmt W hW x hx 0 _ (by rfl)) ?_ | refine N.call (cFmt W hW y hy 0 _ (by rfl)) ?_ | refine N.roll 3 ?_ | refine N.bin _ (nil_is _) ?_ | refine N.bin _ (str_same _ _ _) ?_ | refine N.idx 0 0 (by decide) (by decide) ?_ | refine N.idx 1 0 (by decide) (by decide) ?_ | refine N.forkNo (by decide) ?_ | refine N.forkYes (by decide) ?_ | fail_if_success skip)
    refine N.go ?_
    refine N.endSame ?_
    refine N.some (3, cpA) ⟨(by show 1 ≤ 3; decide), ?_⟩
    refine N.obl (.tuple ⟨.slice (by rfl), .plain rfl, trivial⟩) ?_
    refine N.obl ⟨⟨_, rfl, fun h => h, Nat.le_refl _, fun j hj => absurd hj (Nat.not_lt_zero j)⟩, trivial⟩ ?_
    refine N.obl ⟨⟨by show 1 ≤ 3; decide, post_ints (by rfl) hAi rfl rfl⟩, trivial⟩ ?_
    refine N.obl ⟨⟨.inr ⟨_, rfl, rfl⟩, trivial⟩, ⟨.inl rfl, trivial⟩⟩ ?_
    exact N.true
  · have hAo : IntsIn (grown A 1 1 Tryz.t2.size (.agg ⟨[.int .i64 y]⟩) (.int .i64 0) cpAo) [x, y] cpAo := ints_grown y hA.cell rfl rfl hcAo
    generalize grown A 1 1 Tryz.t2.size (.agg ⟨[.int .i64 y]⟩) (.int .i64 0) cpAo = Ao at *
    repeat' (refine N.go ?_; first | with_reducible refine N.obl (by decide) ?_ | with_reducible refine N.obl (flat_wi _ _ _) ?_ | with_reducible refine N.obl (flat_lim _ _) ?_ | with_reducible refine N.eq ?_ | with_reducible refine N.obl rfl ?_ | with_reducible refine N.obl ⟨by kernel_rfl, by kernel_rfl⟩ ?_ | with_reducible refine N.alt ?_ | with_reducible refine N.forkT ?_ | with_reducible refine N.forkF ?_ | refine N.call (cSplit2 W hW s (numB x) (numB y) hs h1 h2 0 1 _ (by rfl) (by rfl)) ?_ | refine N.call (cParse W hW x hx 0 _ (by rfl)) ?_ | refine N.call (cParse W hW y hy 0 _ (by rfl)) ?_ | refine N.call (cFmt W hW x hx 0 _ (by rfl)) ?_ | refine N.call (cFmt W hW y hy 0 _ (by rfl)) ?_ | refine N.roll 3 ?_ | refine N.bin _ (nil_is _) ?_ | refine N.bin _ (str_same _ _ _) ?_ | refine N.idx 0 0 (by decide) (by decide) ?_ | refine N.idx 1 0 (by decide) (by decide) ?_ | refine N.forkNo (by decide) ?_ | refine N.forkYes (by decide) ?_ | fail_if_success skip)
    refine N.go ?_
    refine N.endSame ?_
    refine N.some (5, cpAo) ⟨(by show 1 ≤ 5; decide), ?_⟩
    refine N.obl (.tuple ⟨.slice (by rfl), .plain rfl, trivial⟩) ?_
    refine N.obl ⟨⟨_, rfl, fun h => h, Nat.le_refl _, fun j hj => absurd hj (Nat.not_lt_zero j)⟩, trivial⟩ ?_
    refine N.obl ⟨⟨by show 1 ≤ 5; decide, post_ints (by rfl) hAo rfl rfl⟩, trivial⟩ ?_
    refine N.obl ⟨⟨.inr ⟨_, rfl, rfl⟩, trivial⟩, ⟨.inl rfl, trivial⟩⟩ ?_
    exact N.true
set_option maxRecDepth 100000 in
set_option maxHeartbeats 2000000 in
theorem cNumbers3 (W : World) (hW : TxOK W) (s : ByteArray) (a b d : Int) (ha : Fits a) (hb : Fits b) (hd : Fits d) (hs : s.size < 4294967281) (h1 : Lib.countB s ⟨#[44]⟩ = 2) (h2 : Lib.splitB ⟨#[44]⟩ 0 2 s = [numB a, numB b, numB d]) (i K : Nat) (hiK : i ≠ K) (h : List (Option Chunk)) (hi : h[i]? = some (some (oldC W))) (hK : h[K]? = some none) :
    CallAll Tryz.prog 12 [.string s, .int .i64 3] h (fun v ms => ∃ c : Nat, v = .tuple #[.slice (some ⟨K, 0, some 0⟩) 3 c, .bool true] ∧ ms = [(i, oldC W), (K, ⟨true, 3, [(0, 3, .agg ⟨[.int .i64 a, .int .i64 b, .int .i64 d]⟩)]⟩)]) := by
  refine CallAll.to2 (call_resall (G := tys) (h := h) (vs := [.string s, .int .i64 3]) (fun _ : Unit => True) (fun _ => _) (α := Nat × Nat) (fun κ => 1 ≤ κ.1) (fun κ => .tuple #[.slice (some ⟨K, 0, some 0⟩) 3 κ.2, .bool true]) [⟨i, oldC W, oldC W, oldC W⟩] (fun κ => [oldC W]) (fun κ => [⟨K, κ.1, ⟨true, 3, [(0, 3, .agg ⟨[.int .i64 a, .int .i64 b, .int .i64 d]⟩)]⟩⟩]) [.string s, .int .i64 3] tysOK mixed Tryz.func12 (by rfl) (Tryz.call12) ⟨hi, trivial⟩ ⟨⟨fun h => ⟨rfl, Nat.le_refl _⟩, Nat.le_refl _, fun j hj => absurd hj (Nat.not_lt_zero j)⟩, trivial⟩ (fun κ _ => ⟨⟨fun h => ⟨rfl, Nat.le_refl _⟩, Nat.le_refl _, fun j hj => absurd hj (Nat.not_lt_zero j)⟩, trivial⟩) (by simp [Apart]) ⟨.inr ⟨rfl, rfl⟩, trivial⟩ (fun κ _ => ⟨⟨hK, rfl, .inl (by show 0 < 3; decide), by simp⟩, trivial⟩) ⟨.plain rfl, .plain rfl, trivial⟩ Opens.same ?_) ?_
  rotate_left
  · rintro v ms ⟨κ, hκ, rfl, rfl⟩
    exact ⟨κ.2, rfl, rfl⟩
  rintro ⟨⟩ -
  repeat' (refine N.go ?_; first | with_reducible refine N.obl (by decide) ?_ | with_reducible refine N.obl (flat_wi _ _ _) ?_ | with_reducible refine N.obl (flat_lim _ _) ?_ | with_reducible refine N.eq ?_ | with_reducible refine N.obl rfl ?_ | with_reducible refine N.obl ⟨by kernel_rfl, by kernel_rfl⟩ ?_ | with_reducible refine N.alt ?_ | with_reducible refine N.forkT ?_ | with_reducible refine N.forkF ?_ | refine N.call (cSplit3 W hW s (numB a) (numB b) (numB d) hs h1 h2 0 1 _ (by rfl) (by rfl)) ?_ | refine N.call (cParse W hW a ha 0 _ (by rfl)) ?_ | refine N.call (cParse W hW b hb 0 _ (by rfl)) ?_ | refine N.call (cParse W hW d hd 0 _ (by rfl)) ?_ | refine N.call (cFmt W hW a ha 0 _ (by rfl)) ?_ | refine N.call (cFmt W hW b hb 0 _ (by rfl)) ?_ | refine N.call (cFmt W hW d hd 0 _ (by rfl)) ?_ | refine N.roll 4 ?_ | refine N.bin _ (nil_is _) ?_ | refine N.bin _ (str_same _ _ _) ?_ | refine N.idx 0 0 (by decide) (by decide) ?_ | refine N.idx 1 0 (by decide) (by decide) ?_ | refine N.idx 2 0 (by decide) (by decide) ?_ | refine N.forkNo (by decide) ?_ | refine N.forkYes (by decide) ?_ | fail_if_success skip)
  refine N.go ?_
  refine App0N.mkq (.agg ⟨[.int .i64 a]⟩) (reads_int1 a) (by decide) (by decide) (by decide) fun cpA hcA => ?_
  have hA : IntsIn (grown ⟨true, 0, []⟩ 0 1 Tryz.t2.size (.agg ⟨[.int .i64 a]⟩) (.int .i64 0) cpA) [a] cpA := ints_grown (l := []) a (fun j hj => absurd hj (Nat.not_lt_zero j)) rfl rfl hcA
  generalize grown ⟨true, 0, []⟩ 0 1 Tryz.t2.size (.agg ⟨[.int .i64 a]⟩) (.int .i64 0) cpA = A at *
  repeat' (refine N.go ?_; first | with_reducible refine N.obl (by decide) ?_ | with_reducible refine N.obl (flat_wi _ _ _) ?_ | with_reducible refine N.obl (flat_lim _ _) ?_ | with_reducible refine N.eq ?_ | with_reducible refine N.obl rfl ?_ | with_reducible refine N.obl ⟨by kernel_rfl, by kernel_rfl⟩ ?_ | with_reducible refine N.alt ?_ | with_reducible refine N.forkT ?_ | with_reducible refine N.forkF ?_ | refine N.call (cSplit3 W hW s (numB a) (numB b) (numB d) hs h1 h2 0 1 _ (by rfl) (by rfl)) ?_ | refine N.call (cParse W hW a ha 0 _ (by rfl)) ?_ | refine N.call (cParse W hW b hb 0 _ (by rfl)) ?_ | refine N.call (cParse W hW d hd 0 _ (by rfl)) ?_ | refine N.call (cFmt W hW a ha 0 _ (by rfl)) ?_ | refine N.call (cFmt W hW b hb 0 _ (by rfl)) ?_ | refine N.call (cFmt W hW d hd 0 _ (by rfl)) ?_ | refine N.roll 4 ?_ | refine N.bin _ (nil_is _) ?_ | refine N.bin _ (str_same _ _ _) ?_ | refine N.idx 0 0 (by decide) (by decide) ?_ | refine N.idx 1 0 (by decide) (by decide) ?_ | refine N.idx 2 0 (by decide) (by decide) ?_ | refine N.forkNo (by decide) ?_ | refine N.forkYes (by decide) ?_ | fail_if_success skip)
  refine N.go ?_
  refine AppN.mkq (.agg ⟨[.int .i64 b]⟩) (reads_int1 b) rfl (by rw [hA.n]; show 1 * 1 ≤ _; omega) (by decide) (by decide) (pushC A 1 b) (fun h => writes_push b hA rfl rfl h) (fun hle => ?_) (fun hlt cpAo hcAo => ?_)
  · have hAi : IntsIn (pushC A 1 b) [a, b] cpA := ints_push b hA rfl hle
    generalize pushC A 1 b = Ai at *
    repeat' (refine N.go ?_; first | with_reducible refine N.obl (by decide) ?_ | with_reducible refine N.obl (flat_wi _ _ _) ?_ | with_reducible refine N.obl (flat_lim _ _) ?_ | with_reducible refine N.eq ?_ | with_reducible refine N.obl rfl ?_ | with_reducible refine N.obl ⟨by kernel_rfl, by kernel_rfl⟩ ?_ | with_reducible refine N.alt ?_ | with_reducible refine N.forkT ?_ | with_reducible refine N.forkF ?_ | refine N.call (cSplit3 W hW s (numB a) (numB b) (numB d) hs h1 h2 0 1 _ (by rfl) (by rfl)) ?_ | refine N.call (cParse W hW a ha 0 _ (by rfl)) ?_ | refine N.call (cParse W hW b hb 0 _ (by rfl)) ?_ | refine N.call (cParse W hW d hd 0 _ (by rfl)) ?_ | refine N.call (cFmt W hW a ha 0 _ (by rfl)) ?_ | refine N.call (cFmt W hW b hb 0 _ (by rfl)) ?_ | refine N.call (cFmt W hW d hd 0 _ (by rfl)) ?_ | refine N.roll 4 ?_ | refine N.bin _ (nil_is _) ?_ | refine N.bin _ (str_same _ _ _) ?_ | refine N.idx 0 0 (by decide) (by decide) ?_ | refine N.idx 1 0 (by decide) (by decide) ?_ | refine N.idx 2 0 (by decide) (by decide) ?_ | refine N.forkNo (by decide) ?_ | refine N.forkYes (by decide) ?_ | fail_if_success skip)
    refine N.go ?_
    refine AppN.mkq (.agg ⟨[.int .i64 d]⟩) (reads_int1 d) rfl (by rw [hAi.n]; show 2 * 1 ≤ _; omega) (by decide) (by decide) (pushC Ai 2 d) (fun h => writes_push d hAi rfl rfl h) (fun hle => ?_) (fun hlt cpAio hcAio => ?_)
    · have hAii : IntsIn (pushC Ai 2 d) [a, b, d] cpA := ints_push d hAi rfl hle
      generalize pushC Ai 2 d = Aii at *
      repeat' (refine N.go ?_; first | with_reducible refine N.obl (by decide) ?_ | with_reducible refine N.obl (flat_wi _ _ _) ?_ | with_reducible refine N.obl (flat_lim _ _) ?_ | with_reducible refine N.eq ?_ | with_reducible refine N.obl rfl ?_ | with_reducible refine N.obl ⟨by kernel_rfl, by kernel_rfl⟩ ?_ | with_reducible refine N.alt ?_ | with_reducible refine N.forkT ?_ | with_reducible refine N.forkF ?_ | refine N.call (cSplit3 W hW s (numB a) (numB b) (numB d) hs h1 h2 0 1 _ (by rfl) (by rfl)) ?_ | refine N.call (cParse W hW a ha 0 _ (by rfl)) ?_ | refine N.call (cParse W hW b hb 0 _ (by rfl)) ?_ | refine N.call (cParse W hW d hd 0 _ (by rfl)) ?_ | refine N.call (cFmt W hW a ha 0 _ (by rfl)) ?_ | refine N.call (cFmt W hW b hb 0 _ (by rfl)) ?_ | refine N.call (cFmt W hW d hd 0 _ (by rfl)) ?_ | refine N.roll 4 ?_ | refine N.bin _ (nil_is _) ?_ | refine N.bin _ (str_same _ _ _) ?_ | refine N.idx 0 0 (by decide) (by decide) ?_ | refine N.idx 1 0 (by decide) (by decide) ?_ | refine N.idx 2 0 (by decide) (by decide) ?_ | refine N.forkNo (by decide) ?_ | refine N.forkYes (by decide) ?_ | fail_if_success skip)
      refine N.go ?_
      refine N.endSame ?_
      refine N.some (3, cpA) ⟨(by show 1 ≤ 3; decide), ?_⟩
      refine N.obl (.tuple ⟨.slice (by rfl), .plain rfl, trivial⟩) ?_
      refine N.obl ⟨⟨_, rfl, fun h => h, Nat.le_refl _, fun j hj => absurd hj (Nat.not_lt_zero j)⟩, trivial⟩ ?_
      refine N.obl ⟨⟨by show 1 ≤ 3; decide, post_ints (by rfl) hAii rfl rfl⟩, trivial⟩ ?_
      refine N.obl ⟨⟨.inr ⟨_, rfl, rfl⟩, trivial⟩, ⟨.inl rfl, trivial⟩⟩ ?_
      exact N.true
    · have hAio : IntsIn (grown Ai 2 1 Tryz.t2.size (.agg ⟨[.int .i64 d]⟩) (.int .i64 0) cpAio) [a, b, d] cpAio := ints_grown d hAi.cell rfl rfl hcAio
      generalize grown Ai 2 1 Tryz.t2.size (.agg ⟨[.int .i64 d]⟩) (.int .i64 0) cpAio = Aio at *
      repeat' (refine N.go ?_; first | with_reducible refine N.obl (by decide) ?_ | with_reducible refine N.obl (flat_wi _ _ _) ?_ | with_reducible refine N.obl (flat_lim _ _) ?_ | with_reducible refine N.eq ?_ | with_reducible refine N.obl rfl ?_ | with_reducible refine N.obl ⟨by kernel_rfl, by kernel_rfl⟩ ?_ | with_reducible refine N.alt ?_ | with_reducible refine N.forkT ?_ | with_reducible refine N.forkF ?_ | refine N.call (cSplit3 W hW s (numB a) (numB b) (numB d) hs h1 h2 0 1 _ (by rfl) (by rfl)) ?_ | refine N.call (cParse W hW a ha 0 _ (by rfl)) ?_ | refine N.call (cParse W hW b hb 0 _ (by rfl)) ?_ | refine N.call (cParse W hW d hd 0 _ (by rfl)) ?_ | refine N.call (cFmt W hW a ha 0 _ (by rfl)) ?_ | refine N.call (cFmt W hW b hb 0 _ (by rfl)) ?_ | refine N.call (cFmt W hW d hd 0 _ (by rfl)) ?_ | refine N.roll 4 ?_ | refine N.bin _ (nil_is _) ?_ | refine N.bin _ (str_same _ _ _) ?_ | refine N.idx 0 0 (by decide) (by decide) ?_ | refine N.idx 1 0 (by decide) (by decide) ?_ | refine N.idx 2 0 (by decide) (by decide) ?_ | refine N.forkNo (by decide) ?_ | refine N.forkYes (by decide) ?_ | fail_if_success skip)
      refine N.go ?_
      refine N.endSame ?_
      refine N.some (6, cpAio) ⟨(by show 1 ≤ 6; decide), ?_⟩
      refine N.obl (.tuple ⟨.slice (by rfl), .plain rfl, trivial⟩) ?_
      refine N.obl ⟨⟨_, rfl, fun h => h, Nat.le_refl _, fun j hj => absurd hj (Nat.not_lt_zero j)⟩, trivial⟩ ?_
      refine N.obl ⟨⟨by show 1 ≤ 6; decide, post_ints (by rfl) hAio rfl rfl⟩, trivial⟩ ?_
      refine N.obl ⟨⟨.inr ⟨_, rfl, rfl⟩, trivial⟩, ⟨.inl rfl, trivial⟩⟩ ?_
      exact N.true
  · have hAo : IntsIn (grown A 1 1 Tryz.t2.size (.agg ⟨[.int .i64 b]⟩) (.int .i64 0) cpAo) [a, b] cpAo := ints_grown b hA.cell rfl rfl hcAo
    generalize grown A 1 1 Tryz.t2.size (.agg ⟨[.int .i64 b]⟩) (.int .i64 0) cpAo = Ao at *
    repeat' (refine N.go ?_; first | with_reducible refine N.obl (by decide) ?_ | with_reducible refine N.obl (flat_wi _ _ _) ?_ | with_reducible refine N.obl (flat_lim _ _) ?_ | with_reducible refine N.eq ?_ | with_reducible refine N.obl rfl ?_ | with_reducible refine N.obl ⟨by kernel_rfl, by kernel_rfl⟩ ?_ | with_reducible refine N.alt ?_ | with_reducible refine N.forkT ?_ | with_reducible refine N.forkF ?_ | refine N.call (cSplit3 W hW s (numB a) (numB b) (numB d) hs h1 h2 0 1 _ (by rfl) (by rfl)) ?_ | refine N.call (cParse W hW a ha 0 _ (by rfl)) ?_ | refine N.call (cParse W hW b hb 0 _ (by rfl)) ?_ | refine N.call (cParse W hW d hd 0 _ (by rfl)) ?_ | refine N.call (cFmt W hW a ha 0 _ (by rfl)) ?_ | refine N.call (cFmt W hW b hb 0 _ (by rfl)) ?_ | refine N.call (cFmt W hW d hd 0 _ (by rfl)) ?_ | refine N.roll 4 ?_ | refine N.bin _ (nil_is _) ?_ | refine N.bin _ (str_same _ _ _) ?_ | refine N.idx 0 0 (by decide) (by decide) ?_ | refine N.idx 1 0 (by decide) (by decide) ?_ | refine N.idx 2 0 (by decide) (by decide) ?_ | refine N.forkNo (by decide) ?_ | refine N.forkYes (by decide) ?_ | fail_if_success skip)
    refine N.go ?_
    refine AppN.mkq (.agg ⟨[.int .i64 d]⟩) (reads_int1 d) rfl (by rw [hAo.n]; show 2 * 1 ≤ _; omega) (by decide) (by decide) (pushC Ao 2 d) (fun h => writes_push d hAo rfl rfl h) (fun hle => ?_) (fun hlt cpAoo hcAoo => ?_)
    · have hAoi : IntsIn (pushC Ao 2 d) [a, b, d] cpAo := ints_push d hAo rfl hle
      generalize pushC Ao 2 d = Aoi at *
      repeat' (refine N.go ?_; first | with_reducible refine N.obl (by decide) ?_ | with_reducible refine N.obl (flat_wi _ _ _) ?_ | with_reducible refine N.obl (flat_lim _ _) ?_ | with_reducible refine N.eq ?_ | with_reducible refine N.obl rfl ?_ | with_reducible refine N.obl ⟨by kernel_rfl, by kernel_rfl⟩ ?_ | with_reducible refine N.alt ?_ | with_reducible refine N.forkT ?_ | with_reducible refine N.forkF ?_ | refine N.call (cSplit3 W hW s (numB a) (numB b) (numB d) hs h1 h2 0 1 _ (by rfl) (by rfl)) ?_ | refine N.call (cParse W hW a ha 0 _ (by rfl)) ?_ | refine N.call (cParse W hW b hb 0 _ (by rfl)) ?_ | refine N.call (cParse W hW d hd 0 _ (by rfl)) ?_ | refine N.call (cFmt W hW a ha 0 _ (by rfl)) ?_ | refine N.call (cFmt W hW b hb 0 _ (by rfl)) ?_ | refine N.call (cFmt W hW d hd 0 _ (by rfl)) ?_ | refine N.roll 4 ?_ | refine N.bin _ (nil_is _) ?_ | refine N.bin _ (str_same _ _ _) ?_ | refine N.idx 0 0 (by decide) (by decide) ?_ | refine N.idx 1 0 (by decide) (by decide) ?_ | refine N.idx 2 0 (by decide) (by decide) ?_ | refine N.forkNo (by decide) ?_ | refine N.forkYes (by decide) ?_ | fail_if_success skip)
      refine N.go ?_
      refine N.endSame ?_
      refine N.some (5, cpAo) ⟨(by show 1 ≤ 5; decide), ?_⟩
      refine N.obl (.tuple ⟨.slice (by rfl), .plain rfl, trivial⟩) ?_
      refine N.obl ⟨⟨_, rfl, fun h => h, Nat.le_refl _, fun j hj => absurd hj (Nat.not_lt_zero j)⟩, trivial⟩ ?_
      refine N.obl ⟨⟨by show 1 ≤ 5; decide, post_ints (by rfl) hAoi rfl rfl⟩, trivial⟩ ?_
      refine N.obl ⟨⟨.inr ⟨_, rfl, rfl⟩, trivial⟩, ⟨.inl rfl, trivial⟩⟩ ?_
      exact N.true
    · have hAoo : IntsIn (grown Ao 2 1 Tryz.t2.size (.agg ⟨[.int .i64 d]⟩) (.int .i64 0) cpAoo) [a, b, d] cpAoo := ints_grown d hAo.cell rfl rfl hcAoo
      generalize grown Ao 2 1 Tryz.t2.size (.agg ⟨[.int .i64 d]⟩) (.int .i64 0) cpAoo = Aoo at *
      repeat' (refine N.go ?_; first | with_reducible refine N.obl (by decide) ?_ | with_reducible refine N.obl (flat_wi _ _ _) ?_ | with_reducible refine N.obl (flat_lim _ _) ?_ | with_reducible refine N.eq ?_ | with_reducible refine N.obl rfl ?_ | with_reducible refine N.obl ⟨by kernel_rfl, by kernel_rfl⟩ ?_ | with_reducible refine N.alt ?_ | with_reducible refine N.forkT ?_ | with_reducible refine N.forkF ?_ | refine N.call (cSplit3 W hW s (numB a) (numB b) (numB d) hs h1 h2 0 1 _ (by rfl) (by rfl)) ?_ | refine N.call (cParse W hW a ha 0 _ (by rfl)) ?_ | refine N.call (cParse W hW b hb 0 _ (by rfl)) ?_ | refine N.call (cParse W hW d hd 0 _ (by rfl)) ?_ | refine N.call (cFmt W hW a ha 0 _ (by rfl)) ?_ | refine N.call (cFmt W hW b hb 0 _ (by rfl)) ?_ | refine N.call (cFmt W hW d hd 0 _ (by rfl)) ?_ | refine N.roll 4 ?_ | refine N.bin _ (nil_is _) ?_ | refine N.bin _ (str_same _ _ _) ?_ | refine N.idx 0 0 (by decide) (by decide) ?_ | refine N.idx 1 0 (by decide) (by decide) ?_ | refine N.idx 2 0 (by decide) (by decide) ?_ | refine N.forkNo (by decide) ?_ | refine N.forkYes (by decide) ?_ | fail_if_success skip)
      refine N.go ?_
      refine N.endSame ?_
      refine N.some (7, cpAoo) ⟨(by show 1 ≤ 7; decide), ?_⟩
      refine N.obl (.tuple ⟨.slice (by rfl), .plain rfl, trivial⟩) ?_
      refine N.obl ⟨⟨_, rfl, fun h => h, Nat.le_refl _, fun j hj => absurd hj (Nat.not_lt_zero j)⟩, trivial⟩ ?_
      refine N.obl ⟨⟨by show 1 ≤ 7; decide, post_ints (by rfl) hAoo rfl rfl⟩, trivial⟩ ?_
      refine N.obl ⟨⟨.inr ⟨_, rfl, rfl⟩, trivial⟩, ⟨.inl rfl, trivial⟩⟩ ?_
      exact N.true
end Go.Proofs.YtdnkeeedcnjofaaGreatDoor


/-
  Words for memory that the walks of this claim use: a stretch of cells that reads as a function; what is kept when blocks are laid; the frame of a law's row; a struct argument read cell by cell.
-/
set_option linter.unusedVariables false
namespace Go.Proofs.YtdnkeeedcnjofaaGreatDoor
open Go.ChangeShapes Go.WideShapes Go.ChangeAt Go.RowKit

theorem ret_bool {a b : Bool} (h : a = b) : Ending.returned (.bool a) = .returned (.bool b) := by rw [h]
theorem ret_int {k : IntKind} {a b : Int} (h : a = b) : Ending.returned (.int k a) = .returned (.int k b) := by rw [h]

theorem add_block (a : Addr) (n : Nat) : (a.add n).block = a.block := by unfold Addr.add; split <;> rfl
theorem add_add (a : Addr) (i j : Nat) : (a.add i).add j = a.add (i + j) := by
  unfold Addr.add
  by_cases hi : i = 0
  · by_cases hj : j = 0 <;> simp [hi, hj]
  · by_cases hj : j = 0
    · simp [hi, hj]
    · simp [hi, hj, Nat.add_assoc]
theorem add_zero_at (b i : Nat) : (⟨b, 0, none⟩ : Addr).add i = ⟨b, i, none⟩ := by
  unfold Addr.add
  split
  · subst i; rfl
  · simp

/-- The first m cells at A hold f, and they lie below block B (of no cells nothing is said). -/
def Seg (w : World) (B : Nat) (A : Option Addr) (m : Nat) (f : Nat → Value) : Prop :=
  0 < m → ∃ x, A = some x ∧ x.block < B ∧ ∀ j, j < m → w.cell? (x.add j) = some (f j)

section
variable {w w' : World} {B B' m : Nat} {A : Option Addr} {f : Nat → Value}
theorem Seg.zero : Seg w B A 0 f := fun h => absurd h (by omega)
theorem Seg.keep (h : Seg w B A m f) (hk : ∀ p : Addr, p.block < B → w'.cell? p = w.cell? p) : Seg w' B A m f := fun hm => by
  obtain ⟨x, e, hb, hc⟩ := h hm
  exact ⟨x, e, hb, fun j hj => (hk _ (by rw [add_block]; exact hb)).trans (hc j hj)⟩
theorem Seg.below (h : Seg w B A m f) (hb : Below B w w') : Seg w' B A m f := h.keep fun _ hp => hb.cell hp
theorem Seg.more (h : Seg w B A m f) (hB : B ≤ B') : Seg w B' A m f := fun hm => by
  obtain ⟨x, e, hb, hc⟩ := h hm
  exact ⟨x, e, by omega, hc⟩
theorem Seg.same {g : Nat → Value} (h : Seg w B A m f) (e : ∀ j, j < m → f j = g j) : Seg w B A m g := fun hm => by
  obtain ⟨x, ex, hb, hc⟩ := h hm
  exact ⟨x, ex, hb, fun j hj => by rw [hc j hj, e j hj]⟩
theorem Seg.less {n : Nat} (h : Seg w B A m f) (e : n ≤ m) : Seg w B A n f := fun hm => by
  obtain ⟨x, ex, hb, hc⟩ := h (by omega)
  exact ⟨x, ex, hb, fun j hj => hc j (by omega)⟩
theorem Seg.alloc (h : Seg w B A m f) (hB : B ≤ w.heap.size) (o : Obj) : Seg (w.alloc o) B A m f := h.below ((Below.refl _ _).alloc hB o)
theorem Seg.drew (h : Seg w B A m f) : Seg w.drew B A m f := h
end

/-- A new block of cells. -/
theorem Seg.new (w : World) (ty : TypeId) (vs : Array Value) (b : Nat) (hb : b = w.heap.size) (f : Nat → Value) (hf : ∀ j, j < vs.size → vs[j]? = some (f j)) :
    Seg (w.alloc (.cells vs ty)) (w.heap.size + 1) (some ⟨b, 0, none⟩) vs.size f := fun _ =>
  ⟨_, rfl, by simp [hb], fun j hj => by rw [add_zero_at, World.cell?_alloc_at _ _ _ _ hb]; exact hf j hj⟩

/-- A row of the call's own. -/
theorem Seg.of_own {w : World} {base : Nat} {e : TypeId} {size n c : Nat} {A : Option Addr} {xs : List Value} (h : w.ownsRow base e size (.slice A n c) n xs) :
    Seg w w.heap.size A xs.length (fun j => xs.getD j undef) := fun hm => by
  obtain ⟨h1, h2⟩ := h
  rcases h2 with ⟨_, rfl⟩ | ⟨g, cap, cur, hv, _, hh, hnc, _, hcs, hx⟩
  · simp at h1; rw [h1] at hm; exact absurd hm (by simp)
  have hA : A = some ⟨g, 0, none⟩ := by injection hv
  subst hA
  have hlt : g < w.heap.size := by
    rcases Nat.lt_or_ge g w.heap.size with hlt | hge
    · exact hlt
    · rw [Array.getElem?_eq_none hge] at hh; cases hh
  refine ⟨_, rfl, hlt, fun j hj => ?_⟩
  have hj' : j < n * size := by omega
  rw [add_zero_at]
  have hc : w.cell? ⟨g, j, none⟩ = cur[j]? := by simp [World.cell?, hh]
  show _ = some (xs.getD j undef)
  rw [hc, List.getD_eq_getElem?_getD, List.getElem?_eq_getElem hj]
  have : cur.toList[j]? = xs[j]? := by rw [← hx, List.getElem?_take, if_pos hj']
  rw [List.getElem?_eq_getElem hj] at this
  simpa using this

theorem own_slice {w : World} {base : Nat} {e : TypeId} {size n : Nat} {v : Value} {xs : List Value} (h : w.ownsRow base e size v n xs) : ∃ A c, v = .slice A n c := by
  rcases h.2 with ⟨rfl, rfl⟩ | ⟨g, cap, cur, rfl, _⟩
  · exact ⟨_, _, rfl⟩
  · exact ⟨_, _, rfl⟩
theorem own_block_ge {w : World} {base : Nat} {e : TypeId} {size n : Nat} {v : Value} {xs : List Value} (h : w.ownsRow base e size v n xs) : ∀ g, v.ownBlock = some g → base ≤ g := by
  intro g hg
  rcases h.2 with ⟨rfl, _⟩ | ⟨g', cap', cur, rfl, hge, _⟩
  · simp [Value.ownBlock] at hg
  · simp [Value.ownBlock] at hg; omega

/-- The one cell of a new block. -/
theorem cell_one_at (w : World) (x : Value) (t : TypeId) (b : Nat) (hb : b = w.heap.size) : ∀ j u, [x][j]? = some u → (w.alloc (.cells #[x] t)).cell? ((⟨b, 0, none⟩ : Addr).add j) = some u := by
  subst hb; exact cell_one_new w x t

/-- The integers of a slice. -/
def ints (k : IntKind) (zs : List Int) : Nat → Value := fun j => .int k (zs.getD j 0)

theorem Seg.ints_of_own {w : World} {base : Nat} {e : TypeId} {n c : Nat} {A : Option Addr} {k : IntKind} {zs : List Int} (h : w.ownsRow base e 1 (.slice A n c) n (zs.map (Value.int k))) :
    Seg w w.heap.size A zs.length (ints k zs) := by
  have := Seg.of_own h
  rw [List.length_map] at this
  refine this.same fun j hj => ?_
  simp [ints, List.getD_eq_getElem?_getD, hj]

/-- A literal slice of integers. -/
theorem Seg.ints_new (w : World) (ty : TypeId) (k : IntKind) (zs : List Int) (vs : Array Value) (b : Nat) (hb : b = w.heap.size) (hv : vs = (zs.map (Value.int k)).toArray) :
    Seg (w.alloc (.cells vs ty)) (w.heap.size + 1) (some ⟨b, 0, none⟩) zs.length (ints k zs) := by
  subst hv
  have := Seg.new w ty ((zs.map (Value.int k)).toArray) b hb (ints k zs) (fun j hj => by
    simp at hj
    simp [ints, List.getD_eq_getElem?_getD, hj])
  simpa using this

/-! ### The frame of a law: it answers true and writes nothing that was there -/

section
variable {H : Type} {enc : TypeId × Value → H} {P : Program}

theorem trodAll_kept (hl : laidOutB P = true) {W W' : World} (bel : Below W.heap.size W W') : ∀ (ts : List TypeId) (vs : List Value) (ds : List (DataW H)) (p : List MemPlace),
    (∀ t ∈ ts, P.readableRec t = true ∧ t < P.types.size) → DataW.TrodAll enc P W 0 (fun _ => true) true ts vs ds p → DataW.TrodAll enc P W' 0 (fun b => decide (b < W.heap.size)) true ts vs ds p
  | [], vs, ds, p, _, h => by
    obtain ⟨rfl, rfl, rfl⟩ := trodAll_nil h
    exact trodAll_mk0
  | t :: ts, vs, ds, p, ht, h => by
    obtain ⟨v, vs, d, ds, p, q, rfl, rfl, rfl, h0, hr⟩ := trodAll_cons h
    have lt : ∀ x ∈ p, x.block < W.heap.size := by obtain ⟨m, hm⟩ := h0; exact DataW.trod_lt m _ _ _ hm
    exact trodAll_cons_mk (Below.trod hl (ht t (by simp)).1 (ht t (by simp)).2 h0 bel lt) (trodAll_kept hl bel ts vs ds q (fun x hx => ht x (by simp [hx])) hr)

theorem trodAll_len : ∀ (ts : List TypeId) (vs : List Value) (ds : List (DataW H)) (p : List MemPlace) {w : World} {base : Nat} {sp : Nat → Bool} {hd : Bool}, DataW.TrodAll enc P w base sp hd ts vs ds p → ds.length = ts.length
  | [], vs, ds, p, _, _, _, _, h => by
    obtain ⟨rfl, rfl, rfl⟩ := trodAll_nil h
    rfl
  | t :: ts, vs, ds, p, _, _, _, _, h => by
    obtain ⟨v, vs, d, ds, p, q, rfl, rfl, rfl, h0, hr⟩ := trodAll_cons h
    simp [trodAll_len ts vs ds q hr]
end

/-- A law's row, from its walk: for whatever arguments that read as data the call answers true and nothing that was there has turned. -/
theorem law_lifted {H : Type} {enc : TypeId × Value → H} {C : Checked} {os : Os} {f : FuncId} {fn : Func} {s : ChangeSpec} {tb : TypeId}
    (own : ownKnob C.prog.godebug = none) (started : os.Started) (noInit : C.prog.inits.idxOf? f = none) (hfn : C.prog.funcs[f]? = some fn)
    (hl : laidOutB C.prog = true) (hr : fn.params.toList.all (fun t => C.prog.readableRec t && decide (t < C.prog.types.size)) = true)
    (hres : fn.resultTypes = #[tb]) (hb : C.prog.underlying tb = some .bool) (hvars : s.vars = [])
    (hspec : ∀ ds : List (DataW H), ds.length = fn.params.toList.length → s.fn H ds = { results := [.lit (.bool true)], args := ds })
    (witness : ∃ (w : World) (tape : Tape) (i : Input), w.os = os ∧ (w.forCall tape i).Shaped C.prog ∧ i.vars = [] ∧ Input.okWide C.prog (w.forCall tape i) .any w.heap.size f i ∧
      s.pre6 enc C.prog fn [] false (w.forCall tape i).memory i.args ∧ ({} : Assume).holds C.prog (lone (Frame.enter C.prog f i.args .normal) [] (w.forCall tape i)))
    (walk : ∀ (W : World) (base : Nat) (args : Array Value) (ds : List (DataW H)) (p : List MemPlace),
      (∀ (j : Nat) t v, fn.params[j]? = some t → args[j]? = some v → Value.okWide C.prog W .any base t v) →
      DataW.TrodAll enc C.prog W 0 (fun _ => true) true fn.params.toList args.toList ds p →
      (DataW.weightsEach C.prog fn.params.toList ds).all (· ≤ reachBytes) = true →
      Calls C.prog f args W fun e W' => e = .returned (.bool true) ∧ Below W.heap.size W W') :
    ReturnsInHanded {} C os f .any (s.pre6 enc C.prog fn [] false) (s.post enc C.prog fn false true false false) := by
  refine returnsInHanded_of_change_sized (C := C) own started noInit hfn witness ?_
  intro W base args ds gs before hval hW _ hsz _
  have hW' := hW
  obtain ⟨p, q, hA, hV, rfl, hfz, hnd⟩ := hW
  rw [hvars] at hV
  obtain ⟨rfl, rfl⟩ := trodVars_none hV
  have hvt : s.plain.varTypes C.prog = [] := by simp [ChangeSpec.plain, DataSpec.varTypes, hvars]
  rw [hvt] at hsz
  simp only [List.append_nil] at hsz
  refine (walk W base args ds p hval hA hsz).mono fun e W' ⟨he, bel⟩ => ?_
  subst he
  have hlen : ds.length = fn.params.toList.length := trodAll_len _ _ _ _ hA
  have hs := hspec ds hlen
  refine ⟨_, rfl, ds, [], p ++ [], [], p, [], hW', ?_, ?_, ?_, bel.frame _, fun h => by cases h⟩
  · rw [List.append_nil, hs, hres]
    exact trodAll_mk1 (shut_bool hb _)
  · rw [List.append_nil, hs]
    refine trodAll_kept hl bel _ _ _ _ (fun t ht => ?_) hA
    have := List.all_eq_true.1 hr t ht
    simpa using this
  · rw [List.append_nil, hs, hvars]
    simp [DataW.TrodVars]

/-! ### A struct (of structs, of arrays) read cell by cell -/

/-- The type of the cell j of a value of type t. -/
def leafAt (P : Program) : Nat → TypeId → Nat → Option TypeId
  | 0, _, _ => none
  | d + 1, t, j =>
    match P.underlying t with
    | some (.struct fs) => (fs.toList.find? fun f => decide (f.offset ≤ j) && decide (j < f.offset + P.cellsOf f.type)).bind fun f => leafAt P d f.type (j - f.offset)
    | some (.array n e) => if j < n * P.cellsOf e then leafAt P d e (j % P.cellsOf e) else none
    | _ => if j = 0 then some t else none

section
variable {H : Type} {enc : TypeId × Value → H} {P : Program} {w : World} {base : Nat} {spare : Nat → Bool} {held : Bool}

theorem leaf_read : ∀ (d : Nat) (t : TypeId) (j : Nat) (l : TypeId) (fuel : Nat) (cs : List Value) (x : DataW H × List MemPlace), leafAt P d t j = some l → j < cs.length → DataW.trod enc P w base spare held fuel t cs = some x →
    ∃ (v : Value) (y : DataW H × List MemPlace) (n : Nat), cs[j]? = some v ∧ DataW.trod enc P w base spare held n l [v] = some y
  | 0, _, _, _, _, _, _, h, _, _ => by simp [leafAt] at h
  | d + 1, t, j, l, fuel, cs, x, h, hj, ht => by
    unfold leafAt at h
    split at h
    · rename_i fs hu
      obtain ⟨f, hf, hl⟩ := Option.bind_eq_some_iff.1 h
      obtain ⟨xs, n, hn, hx, hlen, hxl, hg⟩ := DataW.trod_struct hu ht
      have hp := List.find?_some hf
      simp only [Bool.and_eq_true, decide_eq_true_eq] at hp
      obtain ⟨i, hi, hie⟩ := List.getElem_of_mem (List.mem_of_find?_eq_some hf)
      have hfi : fs[i]? = some f := by simp at hi; rw [Array.getElem?_eq_getElem hi]; simpa using hie
      have hgi := hg i f hfi
      have hxi : i < xs.length := by rw [hxl]; simpa using hi
      rw [List.getElem?_eq_getElem hxi] at hgi
      obtain ⟨v, y, n', hv, hy⟩ := leaf_read d f.type (j - f.offset) l n _ _ hl (by simp; omega) hgi
      refine ⟨v, y, n', ?_, hy⟩
      rw [List.getElem?_take, List.getElem?_drop] at hv
      split at hv
      · rwa [show f.offset + (j - f.offset) = j from by omega] at hv
      · cases hv
    · rename_i n e hu
      split at h
      · rename_i hjn
        obtain ⟨xs, n', hn, hx, hlen, hxl, hg⟩ := DataW.trod_array hu ht
        have hc : 0 < P.cellsOf e := by
          rcases Nat.eq_zero_or_pos (P.cellsOf e) with h0 | h0
          · rw [h0] at hjn; omega
          · exact h0
        have hq : j / P.cellsOf e < n := (Nat.div_lt_iff_lt_mul hc).2 hjn
        have hgi := hg (j / P.cellsOf e) hq
        rw [List.getElem?_eq_getElem (by omega)] at hgi
        have hm := Nat.mod_lt j hc
        have hd := Nat.div_add_mod j (P.cellsOf e)
        have hd' : j / P.cellsOf e * P.cellsOf e + j % P.cellsOf e = j := by rw [Nat.mul_comm]; exact hd
        obtain ⟨v, y, n'', hv, hy⟩ := leaf_read d e (j % P.cellsOf e) l n' _ _ h (by simp; omega) hgi
        refine ⟨v, y, n'', ?_, hy⟩
        rw [List.getElem?_take, if_pos hm, List.getElem?_drop, hd'] at hv
        exact hv
      · cases h
    · split at h
      · rename_i hj0
        subst hj0
        obtain rfl : t = l := by simpa using h
        match cs, hj with
        | [v], _ => exact ⟨v, x, fuel, rfl, ht⟩
        | v :: v' :: r, _ =>
          exfalso
          cases fuel with
          | zero => simp [DataW.trod] at ht
          | succ n =>
            unfold DataW.trod at ht
            split at ht <;> simp_all
      · cases h
end

/-! ### A slice of structs that came in -/
section
variable {H : Type} {enc : TypeId × Value → H} {P : Program} {w : World}

theorem open_rows {t e : TypeId} {C : Nat} {v : Value} {d : DataW H} {p : List MemPlace} (ht : P.underlying t = some (.slice e)) (hC : P.cellsOf e = C) (h : DataW.Trod enc P w 0 (fun _ => true) true t v d p) (hsh : ∃ A len cap, v = .slice A len cap) :
    ∃ (A : Option Addr) (len cap : Nat) (f : Nat → Value), v = .slice A len cap ∧ len ≤ cap ∧ cap ≤ maxLen ∧ ((len = 0 ∧ d = .nil) ∨ ∃ el sp, d = .slice el sp ∧ el.length = len) ∧ Seg w w.heap.size A (len * C) f ∧
      ∀ i, i < len → ∃ (x : DataW H × List MemPlace) (n : Nat) (cs : List Value), DataW.trod enc P w 0 (fun _ => true) true n e cs = some x ∧ cs.length = C ∧ ∀ j, j < C → cs[j]? = some (f (i * C + j)) := by
  obtain ⟨A, len, cap, rfl⟩ := hsh
  obtain ⟨fuel, hf⟩ := h
  rcases Deep.open_slice ht hf with ⟨hcs, hx⟩ | ⟨a, len', cap', m, n, D, Pl, hcs, hb, hl, hm, hmm, hx, hi⟩
  · simp [Value.cells] at hcs
    obtain ⟨rfl, rfl, rfl⟩ := hcs
    simp only [Prod.mk.injEq] at hx
    exact ⟨none, 0, 0, fun _ => undef, rfl, Nat.le_refl _, by simp, .inl ⟨rfl, hx.1⟩, by rw [Nat.zero_mul]; exact Seg.zero, fun i hi => absurd hi (by omega)⟩
  · simp [Value.cells] at hcs
    obtain ⟨rfl, rfl, rfl⟩ := hcs
    simp only [Prod.mk.injEq] at hx
    have hmc : m = cap := by simpa using hmm
    subst hmc
    rw [hC] at hi
    have hrow : ∀ i, i < len → ∃ cs', (cs'.length = C ∧ ∀ j, j < C → w.cell? ((a.add (i * C)).add j) = cs'[j]?) ∧ DataW.trod enc P w 0 (fun _ => true) true n e cs' = some (D i, Pl i) := fun i hil => by
      obtain ⟨cs', hc, ht'⟩ := hi i (by omega)
      obtain ⟨_, hcl, hat⟩ := World.cells?_some hc
      exact ⟨cs', ⟨hcl, hat⟩, ht'⟩
    refine ⟨some a, len, m, fun j => (w.cell? (a.add j)).getD undef, rfl, hl, hm, .inr ⟨_, _, hx.1, by simp⟩, ?_, ?_⟩
    · intro hpos
      have hcell : ∀ j, j < len * C → w.cell? (a.add j) = some ((w.cell? (a.add j)).getD undef) := by
        intro j hj
        have hC0 : 0 < C := by
          rcases Nat.eq_zero_or_pos C with h0 | h0
          · rw [h0] at hj; omega
          · exact h0
        obtain ⟨cs', ⟨hcl, hat⟩, _⟩ := hrow (j / C) ((Nat.div_lt_iff_lt_mul hC0).2 hj)
        have hr := Nat.mod_lt j hC0
        have hd := Nat.div_add_mod j C
        have := hat (j % C) hr
        rw [add_add, show j / C * C + j % C = j from by rw [Nat.mul_comm]; exact hd, List.getElem?_eq_getElem (by omega)] at this
        rw [this]; rfl
      refine ⟨a, rfl, ?_, hcell⟩
      have := World.block_lt_of_cell? _ _ (hcell 0 hpos)
      rwa [add_block] at this
    · intro i hil
      obtain ⟨cs', ⟨hcl, hat⟩, ht'⟩ := hrow i hil
      refine ⟨_, n, cs', ht', hcl, fun j hj => ?_⟩
      have := hat j hj
      rw [add_add, List.getElem?_eq_getElem (by omega)] at this
      show cs'[j]? = some ((w.cell? (a.add (i * C + j))).getD undef)
      rw [this, List.getElem?_eq_getElem (by omega)]; rfl
end

theorem slice_shape {P : Program} {W : World} {r : Reach} {base : Nat} {t e : TypeId} {v : Value} (ht : P.underlying t = some (.slice e)) (hv : Value.okWide P W r base t v) : ∃ A len cap, v = .slice A len cap := okWide_slice ht hv

/-- The number, the truth value of a cell. -/
def boolOf : Value → Bool | .bool b => b | _ => false

section
variable {H : Type} {enc : TypeId × Value → H} {P : Program} {w : World} {base : Nat} {spare : Nat → Bool} {held : Bool}
theorem leaf_int {d : Nat} {t : TypeId} {j : Nat} {l : TypeId} {fuel : Nat} {cs : List Value} {x : DataW H × List MemPlace} {k : IntKind} {u : Value} (hl : leafAt P d t j = some l) (hu : P.underlying l = some (.int k)) (hj : cs[j]? = some u)
    (h : DataW.trod enc P w base spare held fuel t cs = some x) : u = .int k (intOf u) ∧ (Lit.int k (intOf u)).wf = true := by
  have hjl : j < cs.length := (List.getElem?_eq_some_iff.1 hj).1
  obtain ⟨v, y, n, hv, hy⟩ := leaf_read d t j l fuel cs x hl hjl h
  rw [hj] at hv
  obtain rfl := Option.some.inj hv
  obtain ⟨z, hz, _, hw⟩ := DataW.trod_int hu hy
  obtain rfl : u = .int k z := by simpa using hz
  exact ⟨rfl, hw⟩
theorem leaf_bool {d : Nat} {t : TypeId} {j : Nat} {l : TypeId} {fuel : Nat} {cs : List Value} {x : DataW H × List MemPlace} {u : Value} (hl : leafAt P d t j = some l) (hu : P.underlying l = some .bool) (hj : cs[j]? = some u)
    (h : DataW.trod enc P w base spare held fuel t cs = some x) : u = .bool (boolOf u) := by
  have hjl : j < cs.length := (List.getElem?_eq_some_iff.1 hj).1
  obtain ⟨v, y, n, hv, hy⟩ := leaf_read d t j l fuel cs x hl hjl h
  rw [hj] at hv
  obtain rfl := Option.some.inj hv
  obtain ⟨z, hz, _⟩ := DataW.trod_bool hu hy
  obtain rfl : u = .bool z := by simpa using hz
  rfl
end

/-- A slice of integers that came in. -/
theorem open_intsl {H : Type} {enc : TypeId × Value → H} {P : Program} {w : World} {t e : TypeId} {k : IntKind} {v : Value} {d : DataW H} {p : List MemPlace} (ht : P.underlying t = some (.slice e)) (he : P.underlying e = some (.int k)) (hC : P.cellsOf e = 1)
    (h : DataW.Trod enc P w 0 (fun _ => true) true t v d p) (hsh : ∃ A len cap, v = .slice A len cap) :
    ∃ (A : Option Addr) (cap : Nat) (zs : List Int), v = .slice A zs.length cap ∧ ((zs = [] ∧ d = .nil) ∨ ∃ el sp, d = .slice el sp ∧ el.length = zs.length) ∧ Seg w w.heap.size A zs.length (ints k zs) ∧ ∀ n ∈ zs, (Lit.int k n).wf = true := by
  obtain ⟨A, len, cap, f, rfl, hl, hm, hd, hs, hrow⟩ := open_rows (C := 1) ht hC h hsh
  have key : ∀ i, i < len → f i = .int k (intOf (f i)) ∧ (Lit.int k (intOf (f i))).wf = true := by
    intro i hi
    obtain ⟨x, n, cs, ht', hcl, hc⟩ := hrow i hi
    have h0 := hc 0 (by omega)
    rw [Nat.mul_one, Nat.add_zero] at h0
    obtain ⟨z, hz, _, hw⟩ := DataW.trod_int he ht'
    rw [hz] at h0
    have : f i = .int k z := by simpa using h0.symm
    rw [this]
    exact ⟨rfl, hw⟩
  refine ⟨A, cap, (List.range len).map (fun i => intOf (f i)), by simp, ?_, ?_, ?_⟩
  · rcases hd with ⟨rfl, rfl⟩ | ⟨el, sp, rfl, he⟩
    · exact .inl ⟨rfl, rfl⟩
    · exact .inr ⟨el, sp, rfl, by simpa using he⟩
  · simp only [List.length_map, List.length_range]
    rw [Nat.mul_one] at hs
    refine hs.same fun j hj => ?_
    rw [(key j hj).1]
    simp [ints, List.getD_eq_getElem?_getD, hj, intOf]
  · intro n hn
    obtain ⟨i, hi, rfl⟩ := List.mem_map.1 hn
    exact (key i (by simpa using hi)).2

/-! ### What a cell holds behind a block, a draw, a store elsewhere -/
theorem cell_alloc_keep {w : World} {a : Addr} {o : Obj} {v : Value} (h : w.cell? a = some v) : (w.alloc o).cell? a = some v := by
  rw [World.cell?_alloc_lt w o a (World.block_lt_of_cell? _ _ h)]; exact h
theorem cell_drew_keep {w : World} {a : Addr} {v : Value} (h : w.cell? a = some v) : w.drew.cell? a = some v := h
theorem cell_set_keep {w : World} {a b : Addr} {u v : Value} (h : w.cell? a = some v) (hne : b ≠ a) : (w.setCell b u).cell? a = some v := by
  rw [World.cell?_setCell_other w b a u hne]; exact h
theorem cell_set_same {w : World} {b : Addr} {u v : Value} (h : w.cell? b = some v) : (w.setCell b u).cell? b = some u := World.cell?_setCell_same w b u h
theorem cell_below_keep {w w' : World} {B : Nat} {a : Addr} {v : Value} (h : w.cell? a = some v) (hb : Below B w w') (hB : w.heap.size ≤ B) : w'.cell? a = some v :=
  (hb.cell (Nat.lt_of_lt_of_le (World.block_lt_of_cell? _ _ h) hB)).trans h
theorem frozen_drew_keep {w : World} {a : Addr} (h : w.frozen? a = false) : w.drew.frozen? a = false := h

theorem below_drewN {B : Nat} {a w : World} (h : Below B a w) (n : Nat) : Below B a (w.drewN n) := ⟨h.os, h.tape, h.output, h.size, h.block⟩

theorem cell_alloc_at {w : World} {cs : Array Value} {t : TypeId} {b i : Nat} {v : Value} (hb : b = w.heap.size) (hv : cs[i]? = some v) : (w.alloc (.cells cs t)).cell? ⟨b, i, none⟩ = some v := by
  rw [World.cell?_alloc_at _ _ _ _ hb]; exact hv

end Go.Proofs.YtdnkeeedcnjofaaGreatDoor


/-
  Numbers by their digits to the base 2^64: what addition, comparison, shifts, division by one digit do to the digits.
-/
set_option linter.unusedVariables false
namespace Go.Proofs.YtdnkeeedcnjofaaGreatDoor

/-- The base. -/
abbrev Bs : Nat := 18446744073709551616
theorem bs_pos : 0 < Bs := by decide
theorem bsp_pos (n : Nat) : 0 < Bs ^ n := Nat.pow_pos bs_pos

/-- The j-th digit. -/
def dg (v j : Nat) : Nat := v / Bs ^ j % Bs
theorem dg_lt (v j : Nat) : dg v j < 18446744073709551616 := Nat.mod_lt _ bs_pos
theorem dg_zero (j : Nat) : dg 0 j = 0 := by simp [dg]
theorem dg_step (v j : Nat) : v / Bs ^ j = v / Bs ^ (j + 1) * Bs + dg v j := by
  unfold dg
  rw [Nat.pow_succ, ← Nat.div_div_eq_div_mul]
  have := Nat.div_add_mod (v / Bs ^ j) Bs
  rw [Nat.mul_comm]; exact this.symm
theorem mod_step (v j : Nat) : v % Bs ^ (j + 1) = v % Bs ^ j + Bs ^ j * dg v j := by
  unfold dg
  rw [Nat.pow_succ, Nat.mod_mul]
theorem dg_big (v j : Nat) (h : v < Bs ^ j) : dg v j = 0 := by
  unfold dg; rw [Nat.div_eq_of_lt h]; rfl
theorem dg_mod (v n j : Nat) (h : j < n) : dg (v % Bs ^ n) j = dg v j := by
  unfold dg
  obtain ⟨k, rfl⟩ : ∃ k, n = j + (k + 1) := ⟨n - j - 1, by omega⟩
  rw [Nat.pow_add, Nat.mod_mul_right_div_self, Nat.pow_succ, Nat.mul_comm (Bs ^ k), Nat.mod_mul_right_mod]
theorem eq_of_dg (n a b : Nat) (ha : a < Bs ^ n) (hb : b < Bs ^ n) (h : ∀ j, j < n → dg a j = dg b j) : a = b := by
  have key : ∀ m, m ≤ n → a % Bs ^ m = b % Bs ^ m := by
    intro m
    induction m with
    | zero => intro _; simp [Nat.mod_one]
    | succ m ih => intro hm; rw [mod_step, mod_step, ih (by omega), h m (by omega)]
  have := key n (Nat.le_refl _)
  rwa [Nat.mod_eq_of_lt ha, Nat.mod_eq_of_lt hb] at this

/-- The carry into the i-th digit. -/
def cry (a b i : Nat) : Nat := (a % Bs ^ i + b % Bs ^ i) / Bs ^ i
theorem cry_zero (a b : Nat) : cry a b 0 = 0 := by simp [cry, Nat.mod_one]
theorem cry_le (a b i : Nat) : cry a b i ≤ 1 := by
  unfold cry
  have h1 := Nat.mod_lt a (bsp_pos i)
  have h2 := Nat.mod_lt b (bsp_pos i)
  have : (a % Bs ^ i + b % Bs ^ i) / Bs ^ i < 2 := (Nat.div_lt_iff_lt_mul (bsp_pos i)).2 (by omega)
  omega
theorem cry_step (a b i : Nat) : dg a i + dg b i + cry a b i = dg (a + b) i + Bs * cry a b (i + 1) := by
  have e1 : ∀ m, a + b = (a / Bs ^ m + b / Bs ^ m + cry a b m) * Bs ^ m + (a % Bs ^ m + b % Bs ^ m) % Bs ^ m := by
    intro m
    have ha := Nat.div_add_mod a (Bs ^ m)
    have hb := Nat.div_add_mod b (Bs ^ m)
    have hc := Nat.div_add_mod (a % Bs ^ m + b % Bs ^ m) (Bs ^ m)
    unfold cry
    generalize Bs ^ m = q at *
    rw [Nat.add_mul, Nat.add_mul, Nat.mul_comm (a / q), Nat.mul_comm (b / q), Nat.mul_comm _ q]
    omega
  have e2 : ∀ m, (a + b) / Bs ^ m = a / Bs ^ m + b / Bs ^ m + cry a b m := by
    intro m
    have h := e1 m
    have hr := Nat.mod_lt (a % Bs ^ m + b % Bs ^ m) (bsp_pos m)
    rw [h, Nat.mul_comm, Nat.mul_add_div (bsp_pos m), Nat.div_eq_of_lt hr, Nat.add_zero]
  have s0 := dg_step a i
  have s1 := dg_step b i
  have s2 := dg_step (a + b) i
  have q0 := e2 i
  have q1 := e2 (i + 1)
  rw [q0, q1] at s2
  generalize a / Bs ^ (i + 1) = x at *
  generalize b / Bs ^ (i + 1) = y at *
  generalize cry a b (i + 1) = z at *
  generalize cry a b i = u at *
  simp only [Bs] at *
  omega
theorem cry_dig (a b i : Nat) : (dg a i + dg b i + cry a b i) % 18446744073709551616 = dg (a + b) i := by
  have := cry_step a b i
  have h := dg_lt (a + b) i
  simp only [Bs] at this
  omega
theorem cry_next (a b i : Nat) : (dg a i + dg b i + cry a b i) / 18446744073709551616 = cry a b (i + 1) := by
  have := cry_step a b i
  have h := dg_lt (a + b) i
  simp only [Bs] at this
  omega

theorem div_gen (x d b B : Nat) (hd : d < B) (hb : 0 < b) : (x % b * B + d) / b = (x * B + d) / b % B ∧ (x % b * B + d) % b = (x * B + d) % b := by
  have hq := Nat.div_add_mod x b
  have hr := Nat.mod_lt x hb
  have e : x * B + d = b * (x / b * B) + (x % b * B + d) := by
    have h : x * B = b * (x / b) * B + x % b * B := by rw [← Nat.add_mul, hq]
    rw [h, Nat.mul_assoc, Nat.add_assoc]
  have hlt : (x % b * B + d) / b < B := by
    rw [Nat.div_lt_iff_lt_mul hb]
    have : (x % b + 1) * B ≤ b * B := Nat.mul_le_mul_right _ hr
    rw [Nat.add_mul] at this
    rw [Nat.mul_comm B b]
    omega
  constructor
  · rw [e, Nat.mul_add_div hb, Nat.mul_comm (x / b) B, Nat.mul_add_mod, Nat.mod_eq_of_lt hlt]
  · rw [e, Nat.mul_add_mod]

/-- The digits of what remains of a division by one digit, from the top. -/
theorem div_step (a b i : Nat) (hb : 0 < b) : (a / Bs ^ (i + 1) % b * 18446744073709551616 + dg a i) / b = dg (a / b) i ∧ (a / Bs ^ (i + 1) % b * 18446744073709551616 + dg a i) % b = a / Bs ^ i % b := by
  have h := div_gen (a / Bs ^ (i + 1)) (dg a i) b Bs (dg_lt a i) hb
  rw [← dg_step] at h
  refine ⟨?_, h.2⟩
  have h1 := h.1
  unfold dg at *
  rw [h1, Nat.div_div_eq_div_mul, Nat.div_div_eq_div_mul, Nat.mul_comm]

/-- The shift by less than a digit, down: what the i-th digit of the result is. -/
theorem shr_step (a i k : Nat) (hk : k < 64) : dg (a / 2 ^ k) i = dg a i / 2 ^ k + dg a (i + 1) * 2 ^ (64 - k) % 18446744073709551616 := by
  have e : Bs = 2 ^ k * 2 ^ (64 - k) := by rw [← Nat.pow_add, show k + (64 - k) = 64 from by omega]
  have s := dg_step a i
  have s1 := dg_step a (i + 1)
  have hd := dg_lt a i
  unfold dg at s1 s hd ⊢
  rw [Nat.div_div_eq_div_mul, Nat.mul_comm (2 ^ k), ← Nat.div_div_eq_div_mul]
  generalize a / Bs ^ i % Bs = d0 at *
  generalize a / Bs ^ (i + 1) % Bs = d1 at *
  generalize a / Bs ^ (i + 1) = x at *
  generalize a / Bs ^ (i + 1 + 1) = y at *
  rw [s, s1]
  have hp : 0 < 2 ^ k := Nat.pow_pos (by decide)
  have hp2 : 0 < 2 ^ (64 - k) := Nat.pow_pos (by decide)
  generalize 2 ^ k = p at *
  generalize 2 ^ (64 - k) = q at *
  show _ = d0 / p + d1 * q % Bs
  have hd' : d0 < Bs := hd
  clear s s1 hd hk
  generalize Bs = B at *
  subst e
  rw [show (y * (p * q) + d1) * (p * q) + d0 = p * ((y * (p * q) + d1) * q) + d0 from by rw [Nat.mul_left_comm], Nat.mul_add_div hp]
  have hq : d0 / p < q := by rw [Nat.div_lt_iff_lt_mul hp, Nat.mul_comm]; exact hd'
  have h2 : (y * (p * q) + d1) * q + d0 / p = (p * q) * (y * q) + (d1 * q + d0 / p) := by
    rw [Nat.add_mul, Nat.mul_comm y (p * q), Nat.mul_assoc (p * q), Nat.add_assoc]
  rw [h2, Nat.mul_add_mod]
  have h3 := Nat.div_add_mod (d1 * q) (p * q)
  have h4 : d1 * q % (p * q) = d1 % p * q := by rw [Nat.mul_mod_mul_right]
  have h5 : d1 % p * q + d0 / p < p * q := by
    have := Nat.mod_lt d1 hp
    have : (d1 % p + 1) * q ≤ p * q := Nat.mul_le_mul_right _ this
    rw [Nat.add_mul] at this
    omega
  rw [show d1 * q + d0 / p = p * q * (d1 * q / (p * q)) + (d1 * q % (p * q) + d0 / p) from by omega, Nat.mul_add_mod, h4, Nat.mod_eq_of_lt h5]
  omega
end Go.Proofs.YtdnkeeedcnjofaaGreatDoor


/-
  Arrays of sixteen digits in memory: a row of cells, what it reads as, what a store makes of it.
-/
set_option linter.unusedVariables false
set_option linter.unusedSimpArgs false
namespace Go.Proofs.YtdnkeeedcnjofaaGreatDoor
open Go.RowKit

/-- The cells of an array of digits. -/
def lim (n : Nat) (f : Nat → Nat) : Array Value := ((List.range n).map fun j => Value.int .u64 ((f j : Nat) : Int)).toArray
@[simp] theorem lim_size (n : Nat) (f : Nat → Nat) : (lim n f).size = n := by simp [lim]
theorem lim_get (n : Nat) (f : Nat → Nat) (j : Nat) (h : j < n) : (lim n f)[j]? = some (.int .u64 ((f j : Nat) : Int)) := by
  simp [lim, h]
theorem lim_one (n : Nat) (f : Nat → Nat) : (lim n f).all (·.oneCell') = true := by
  rw [Array.all_eq_true_iff_forall_mem]
  intro x hx
  simp only [lim, List.mem_toArray, List.mem_map] at hx
  obtain ⟨j, _, rfl⟩ := hx
  rfl
theorem lim_set (n : Nat) (f g : Nat → Nat) (i : Nat) (v : Int) (hi : i < n) (hv : v = ((g i : Nat) : Int)) (h : ∀ j, j < n → j ≠ i → f j = g j) : (lim n f).setIfInBounds i (.int .u64 v) = lim n g := by
  apply Array.ext_getElem?
  intro j
  rw [Array.getElem?_setIfInBounds]
  by_cases hj : j < n
  · rw [lim_get n g j hj]
    split
    · rename_i e; subst e; rw [if_pos (by simpa using hj), hv]
    · rename_i e; rw [lim_get n f j hj, h j hj (Ne.symm e)]
  · rw [Array.getElem?_eq_none (by simp; omega), Array.getElem?_eq_none (by simp; omega), if_neg (by omega)]
theorem lim_same (n : Nat) (f g : Nat → Nat) (h : ∀ j, j < n → f j = g j) : lim n f = lim n g := by
  unfold lim
  congr 1
  apply List.map_congr_left
  intro j hj
  rw [h j (by simpa using hj)]

/-- A number of sixteen digits as its cells. -/
def sz (v : Nat) : Array Value := lim 16 (dg v)
@[simp] theorem sz_size (v : Nat) : (sz v).size = 16 := lim_size _ _
theorem sz_get (v j : Nat) (h : j < 16) : (sz v)[j]? = some (.int .u64 ((dg v j : Nat) : Int)) := lim_get _ _ _ h
theorem sz_one (v : Nat) : (sz v).all (·.oneCell') = true := lim_one _ _
theorem sz_zero : sz 0 = #[.int .u64 0, .int .u64 0, .int .u64 0, .int .u64 0, .int .u64 0, .int .u64 0, .int .u64 0, .int .u64 0, .int .u64 0, .int .u64 0, .int .u64 0, .int .u64 0, .int .u64 0, .int .u64 0, .int .u64 0, .int .u64 0] := by
  unfold sz
  rw [lim_same 16 (dg 0) (fun _ => 0) (fun j _ => dg_zero j)]
  rfl
theorem dg_small (v : Nat) (h : v < 18446744073709551616) (j : Nat) : dg v j = if j = 0 then v else 0 := by
  split
  · subst j; simp [dg]; exact h
  · apply dg_big
    exact Nat.lt_of_lt_of_le h (Nat.le_self_pow (by omega) Bs)
theorem sz_small (v : Nat) (h : v < 18446744073709551616) : sz v = #[.int .u64 v, .int .u64 0, .int .u64 0, .int .u64 0, .int .u64 0, .int .u64 0, .int .u64 0, .int .u64 0, .int .u64 0, .int .u64 0, .int .u64 0, .int .u64 0, .int .u64 0, .int .u64 0, .int .u64 0, .int .u64 0] := by
  unfold sz
  rw [lim_same 16 (dg v) (fun j => if j = 0 then v else 0) (fun j _ => dg_small v h j)]
  rfl

/-- A number with its sign, or over, as its cells. -/
def wi (neg over : Bool) (v : Nat) : Array Value := #[.bool neg, .bool over] ++ sz v
@[simp] theorem wi_size (neg over : Bool) (v : Nat) : (wi neg over v).size = 18 := by simp [wi]
theorem wi_neg (neg over : Bool) (v : Nat) : (wi neg over v)[0]? = some (.bool neg) := by simp [wi, Array.getElem?_append]
theorem wi_over (neg over : Bool) (v : Nat) : (wi neg over v)[1]? = some (.bool over) := by simp [wi, Array.getElem?_append]
theorem wi_get (neg over : Bool) (v j : Nat) (h : j < 16) : (wi neg over v)[2 + j]? = some (.int .u64 ((dg v j : Nat) : Int)) := by
  rw [wi, Array.getElem?_append, if_neg (by simp), show 2 + j - #[Value.bool neg, Value.bool over].size = j from by simp]
  exact sz_get v j h
theorem wi_one (neg over : Bool) (v : Nat) : (wi neg over v).all (·.oneCell') = true := by
  unfold wi
  rw [Array.all_append, sz_one]; simp [Value.oneCell']

/-- The block g is a row of the cells cs. -/
def IsRow (w : World) (g : Nat) (t : TypeId) (cs : Array Value) : Prop := w.heap[g]? = some (.cells cs t (0, 0))

section
variable {w : World} {g : Nat} {t : TypeId} {cs : Array Value}
theorem IsRow.lt (h : IsRow w g t cs) : g < w.heap.size := (Array.getElem?_eq_some_iff.1 h).1
theorem IsRow.cell (h : IsRow w g t cs) {j : Nat} {v : Value} (hv : cs[j]? = some v) : w.cell? ⟨g, j, none⟩ = some v := by
  rw [cell_of_row w g j cs t _ h]; exact hv
theorem IsRow.frozen (h : IsRow w g t cs) (j : Nat) : w.frozen? ⟨g, j, none⟩ = false := by
  simp [World.frozen?, show w.heap[g]? = some (.cells cs t (0, 0)) from h]
theorem IsRow.alloc (h : IsRow w g t cs) (o : Obj) : IsRow (w.alloc o) g t cs := by
  have := h.lt
  unfold IsRow World.alloc at *
  simp only [Array.getElem?_push]
  rw [if_neg (by omega)]; exact h
theorem IsRow.drew (h : IsRow w g t cs) : IsRow w.drew g t cs := h
theorem IsRow.drewN (h : IsRow w g t cs) (n : Nat) : IsRow (w.drewN n) g t cs := h
theorem IsRow.new (w : World) (cs : Array Value) (t : TypeId) : IsRow (w.alloc (.cells cs t)) w.heap.size t cs := by
  unfold IsRow World.alloc; simp
theorem IsRow.set (h : IsRow w g t cs) (i : Nat) (v : Value) : IsRow (w.setCell ⟨g, i, none⟩ v) g t (cs.setIfInBounds i v) := by
  unfold IsRow
  rw [setCell_eq_setRow w g i cs t _ v h]
  exact setRow_heap w g cs _ t _ h
theorem IsRow.setOther (h : IsRow w g t cs) (a : Addr) (v : Value) (hne : a.block ≠ g) : IsRow (w.setCell a v) g t cs := by
  unfold IsRow World.setCell at *
  simp only [Array.getElem?_modify]
  rw [if_neg hne]; exact h
theorem IsRow.row (h : IsRow w g t cs) (ds : Array Value) : IsRow (w.setRow g ds) g t ds := setRow_heap w g cs ds t _ h
theorem IsRow.rowOther (h : IsRow w g t cs) (k : Nat) (ds : Array Value) (hne : g ≠ k) : IsRow (w.setRow k ds) g t cs := (setRow_other w k g ds hne).trans h
theorem IsRow.below {w' : World} {B : Nat} (h : IsRow w g t cs) (hb : Below B w w') (hg : g < B) : IsRow w' g t cs := (hb.block g hg).trans h
end

/-- Sixteen digits of v lie at offset o of the block g. -/
def Digs (w : World) (g o v : Nat) : Prop := ∀ j, j < 16 → w.cell? ⟨g, o + j, none⟩ = some (.int .u64 ((dg v j : Nat) : Int))
theorem Digs.of_sz {w : World} {g : Nat} {t : TypeId} {v : Nat} (h : IsRow w g t (sz v)) : Digs w g 0 v := fun j hj => by
  rw [Nat.zero_add]; exact h.cell (sz_get v j hj)
theorem Digs.of_wi {w : World} {g : Nat} {t : TypeId} {neg over : Bool} {v : Nat} (h : IsRow w g t (wi neg over v)) : Digs w g 2 v := fun j hj => h.cell (wi_get neg over v j hj)
theorem Digs.lt {w : World} {g o v : Nat} (h : Digs w g o v) : g < w.heap.size := World.block_lt_of_cell? _ _ (h 0 (by omega))
theorem Digs.below {w w' : World} {g o v B : Nat} (h : Digs w g o v) (hb : Below B w w') (hg : g < B) : Digs w' g o v := fun j hj => (hb.cell (p := ⟨g, o + j, none⟩) hg).trans (h j hj)

/-- A value that is built, told as its cells. -/
theorem wpList_build1 {P : Program} {ops : Array Oper} {rest : List Oper} {o : Oper} {a : Act} {w : World} {Q : Exit → Act → World → Prop} (hg : o.guard = none) (t : TypeId) (i : Nat) (x : Operand) (ho : o.op = .build t #[(i, x)])
    (v : Value) (hv : a.eval x = v) (cs : Array Value) (hb : P.built t [(i, v)] = some cs)
    (h : wpList P ops Q rest (a.put o.dst (.agg cs)) w) : wpList P ops Q (o :: rest) a w := by
  subst hv
  have e : ((#[(i, x)] : Array (Nat × Operand)).map fun (i, x) => (i, a.eval x)).toList = [(i, a.eval x)] := by simp
  refine wpList_build hg t _ ho ?_ ?_
  · rw [e, hb]; rfl
  · rw [e, hb]; exact h
theorem wpList_build2 {P : Program} {ops : Array Oper} {rest : List Oper} {o : Oper} {a : Act} {w : World} {Q : Exit → Act → World → Prop} (hg : o.guard = none) (t : TypeId) (i j : Nat) (x y : Operand) (ho : o.op = .build t #[(i, x), (j, y)])
    (u v : Value) (hu : a.eval x = u) (hv : a.eval y = v) (cs : Array Value) (hb : P.built t [(i, u), (j, v)] = some cs)
    (h : wpList P ops Q rest (a.put o.dst (.agg cs)) w) : wpList P ops Q (o :: rest) a w := by
  subst hu hv
  have e : ((#[(i, x), (j, y)] : Array (Nat × Operand)).map fun (i, x) => (i, a.eval x)).toList = [(i, a.eval x), (j, a.eval y)] := by simp
  refine wpList_build hg t _ ho ?_ ?_
  · rw [e, hb]; rfl
  · rw [e, hb]; exact h
theorem wpList_build0 {P : Program} {ops : Array Oper} {rest : List Oper} {o : Oper} {a : Act} {w : World} {Q : Exit → Act → World → Prop} (hg : o.guard = none) (t : TypeId) (ho : o.op = .build t #[])
    (cs : Array Value) (hb : P.built t [] = some cs)
    (h : wpList P ops Q rest (a.put o.dst (.agg cs)) w) : wpList P ops Q (o :: rest) a w := by
  have e : ((#[] : Array (Nat × Operand)).map fun (i, x) => (i, a.eval x)).toList = [] := by simp
  refine wpList_build hg t _ ho ?_ ?_
  · rw [e, hb]; rfl
  · rw [e, hb]; exact h

/-- A part of a row that is read as a whole. -/
theorem run_loadVar_part {P : Program} (w : World) (g o : Nat) (ty : TypeId) (cs : Array Value) (d : TypeDesc) (hc : ∀ j v, cs[j]? = some v → w.cell? ⟨g, o + j, none⟩ = some v)
    (hu : P.underlying ty = some d) (hd : (match d with | .struct _ | .array _ _ => true | _ => false) = true) (hi : (P.info? ty).map (·.size) = some cs.size) :
    (loadVar ty ⟨g, o, none⟩).run P w = .ok (.agg cs) w := by
  have hl : (loadCells ⟨g, o, none⟩ cs.toList.length).run P w = .ok cs.toList.toArray w :=
    run_loadCells_list (P := P) w ⟨g, o, none⟩ cs.toList (fun j v hv => by
      have hadd : (⟨g, o, none⟩ : Addr).add j = ⟨g, o + j, none⟩ := by unfold Addr.add; split <;> simp_all
      rw [hadd]
      exact hc j v (by simpa using hv))
  cases hq : P.info? ty with
  | none => simp [hq] at hi
  | some i =>
    have hs : i.size = cs.size := by simpa [hq] using hi
    have hagg : (isAgg ty).run P w = .ok true w := by
      unfold isAgg
      rw [Sem.run_bind, run_underlying hu w]
      cases d <;> simp_all
    simp only [Array.length_toList, Array.toArray_toList] at hl
    simp [loadVar, Sem.run_bind, hagg, sizeOf, typeInfo, hq, hs, hl]
theorem wpList_load_part {P : Program} {ops : Array Oper} {rest : List Oper} {o : Oper} {a : Act} {w : World} {Q : Exit → Act → World → Prop} (hgd : o.guard = none) (ty : TypeId) (x : Operand) (ho : o.op = .load ty x)
    (g k : Nat) (hx : a.eval x = .pointer (some ⟨g, k, none⟩)) (cs : Array Value) (d : TypeDesc) (hc : ∀ j v, cs[j]? = some v → w.cell? ⟨g, k + j, none⟩ = some v)
    (hu : P.underlying ty = some d) (hd : (match d with | .struct _ | .array _ _ => true | _ => false) = true) (hi : (P.info? ty).map (·.size) = some cs.size)
    (h : wpList P ops Q rest (a.put o.dst (.agg cs)) w) : wpList P ops Q (o :: rest) a w :=
  wpList_plain hgd fun _ hK => by
    unfold Oper.wp execOp
    simp only [ho, hx, Instr.loadAt, Instr.sureAddr, Sem.run_bind, Sem.run_pure, Result.andThen_ok, run_loadVar_part w g k ty cs d hc hu hd hi]
    exact hK _ _ h
theorem Digs.cells {w : World} {g o v : Nat} (h : Digs w g o v) : ∀ j u, (sz v)[j]? = some u → w.cell? ⟨g, o + j, none⟩ = some u := fun j u hu => by
  have hj : j < 16 := by
    rcases Nat.lt_or_ge j 16 with h | h
    · exact h
    · rw [Array.getElem?_eq_none (by simpa using h)] at hu; cases hu
  rw [sz_get v j hj] at hu
  rw [h j hj]; exact hu

/-! The same steps in a region that only reads -/
section
variable {P : Program} {ops : Array Oper} {rest : List Oper} {o : Oper} {a : Act} {w : World} {Q : Act → Prop}
theorem wpStill_load_row (hw : Region.wanted o (yielded ops a.tmps) = true) (ty : TypeId) (x : Operand) (ho : o.op = .load ty x)
    (g : Nat) (hx : a.eval x = .pointer (some ⟨g, 0, none⟩)) (t : TypeId) (cs : Array Value) (fr : Nat × Nat) (d : TypeDesc) (hg : w.heap[g]? = some (.cells cs t fr))
    (hu : P.underlying ty = some d) (hd : (match d with | .struct _ | .array _ _ => true | _ => false) = true) (hi : (P.info? ty).map (·.size) = some cs.size)
    (h : wpStill P ops w Q rest (a.put o.dst (.agg cs))) : wpStill P ops w Q (o :: rest) a := by
  unfold wpStill
  rw [if_pos hw]
  unfold Oper.still execOp
  simp only [ho, hx, Instr.loadAt, Instr.sureAddr, Sem.run_bind, Sem.run_pure, Result.andThen_ok, run_loadVar_row w g t ty cs fr d hg hu hd hi]
  exact ⟨rfl, h⟩
theorem wpStill_load_part (hw : Region.wanted o (yielded ops a.tmps) = true) (ty : TypeId) (x : Operand) (ho : o.op = .load ty x)
    (g k : Nat) (hx : a.eval x = .pointer (some ⟨g, k, none⟩)) (cs : Array Value) (d : TypeDesc) (hc : ∀ j v, cs[j]? = some v → w.cell? ⟨g, k + j, none⟩ = some v)
    (hu : P.underlying ty = some d) (hd : (match d with | .struct _ | .array _ _ => true | _ => false) = true) (hi : (P.info? ty).map (·.size) = some cs.size)
    (h : wpStill P ops w Q rest (a.put o.dst (.agg cs))) : wpStill P ops w Q (o :: rest) a := by
  unfold wpStill
  rw [if_pos hw]
  unfold Oper.still execOp
  simp only [ho, hx, Instr.loadAt, Instr.sureAddr, Sem.run_bind, Sem.run_pure, Result.andThen_ok, run_loadVar_part w g k ty cs d hc hu hd hi]
  exact ⟨rfl, h⟩
theorem wpStill_build0 (hw : Region.wanted o (yielded ops a.tmps) = true) (t : TypeId) (ho : o.op = .build t #[])
    (cs : Array Value) (hb : P.built t [] = some cs)
    (h : wpStill P ops w Q rest (a.put o.dst (.agg cs))) : wpStill P ops w Q (o :: rest) a := by
  have e : ((#[] : Array (Nat × Operand)).map fun (i, x) => (i, a.eval x)).toList = [] := by simp
  unfold wpStill
  rw [if_pos hw]
  unfold Oper.still execOp
  simp only [ho, Sem.run_bind, run_build w t _ cs (e ▸ hb), Result.andThen_ok]
  exact ⟨rfl, h⟩
theorem wpStill_build2 (hw : Region.wanted o (yielded ops a.tmps) = true) (t : TypeId) (i j : Nat) (x y : Operand) (ho : o.op = .build t #[(i, x), (j, y)])
    (u v : Value) (hu : a.eval x = u) (hv : a.eval y = v) (cs : Array Value) (hb : P.built t [(i, u), (j, v)] = some cs)
    (h : wpStill P ops w Q rest (a.put o.dst (.agg cs))) : wpStill P ops w Q (o :: rest) a := by
  subst hu hv
  have e : ((#[(i, x), (j, y)] : Array (Nat × Operand)).map fun (i, x) => (i, a.eval x)).toList = [(i, a.eval x), (j, a.eval y)] := by simp
  unfold wpStill
  rw [if_pos hw]
  unfold Oper.still execOp
  simp only [ho, Sem.run_bind, run_build w t _ cs (e ▸ hb), Result.andThen_ok]
  exact ⟨rfl, h⟩
end

/-! Which operation stands next (tried ahead of the laws above) -/
section
variable {P : Program} {ops : Array Oper} {rest : List Oper} {o : Oper} {a : Act} {w : World}
theorem isLoadS {Q : Act → Prop} {ty : TypeId} {x : Operand} (ho : o.op = .load ty x) (h : wpStill P ops w Q (o :: rest) a) : wpStill P ops w Q (o :: rest) a := h
theorem isBuildS {Q : Act → Prop} {ty : TypeId} {ps : Array (Nat × Operand)} (ho : o.op = .build ty ps) (h : wpStill P ops w Q (o :: rest) a) : wpStill P ops w Q (o :: rest) a := h
theorem isLoadL {Q : Exit → Act → World → Prop} {ty : TypeId} {x : Operand} (ho : o.op = .load ty x) (h : wpList P ops Q (o :: rest) a w) : wpList P ops Q (o :: rest) a w := h
theorem isBuildL {Q : Exit → Act → World → Prop} {ty : TypeId} {ps : Array (Nat × Operand)} (ho : o.op = .build ty ps) (h : wpList P ops Q (o :: rest) a w) : wpList P ops Q (o :: rest) a w := h
theorem isStoreL {Q : Exit → Act → World → Prop} {ty : TypeId} {x y : Operand} (ho : o.op = .store ty x y) (h : wpList P ops Q (o :: rest) a w) : wpList P ops Q (o :: rest) a w := h
end

/-! The same as steps of a region that draws its order -/
section
variable {P : Program} {ops : Array Oper} {o : Oper} {a : Act} {w : World} {K : Act → World → Prop} {Q : Exit → Act → World → Prop} {E : Prop}
theorem step_load_row (hg : o.guard = none) (ty : TypeId) (x : Operand) (ho : o.op = .load ty x)
    (g : Nat) (hx : a.eval x = .pointer (some ⟨g, 0, none⟩)) (t : TypeId) (cs : Array Value) (fr : Nat × Nat) (d : TypeDesc) (hr : w.heap[g]? = some (.cells cs t fr))
    (hu : P.underlying ty = some d) (hd : (match d with | .struct _ | .array _ _ => true | _ => false) = true) (hi : (P.info? ty).map (·.size) = some cs.size)
    (hK : K (a.put o.dst (.agg cs)) w) : if Region.wanted o (yielded ops a.tmps) = true then Oper.wp P o a w K Q else E := by
  have hw : Region.wanted o (yielded ops a.tmps) = true := by simp [Region.wanted, hg]
  rw [if_pos hw]
  exact wp_load_row ty x ho g hx t cs fr d hr hu hd hi hK
theorem step_store_row (hg : o.guard = none) (ty : TypeId) (x y : Operand) (ho : o.op = .store ty x y)
    (g : Nat) (cells : Array Value) (hx : a.eval x = .pointer (some ⟨g, 0, none⟩)) (hy : a.eval y = .agg cells)
    (t : TypeId) (old : Array Value) (hr : w.heap[g]? = some (.cells old t (0, 0))) (hi : (P.info? ty).map (·.size) = some cells.size)
    (hold : old.size = cells.size) (h1 : cells.all (·.oneCell') = true)
    (hK : K (a.put o.dst undef) (w.setRow g cells)) : if Region.wanted o (yielded ops a.tmps) = true then Oper.wp P o a w K Q else E := by
  have hw : Region.wanted o (yielded ops a.tmps) = true := by simp [Region.wanted, hg]
  rw [if_pos hw]
  exact wp_store_row ty x y ho g cells hx hy t old hr hi hold h1 hK
end

/-- Two results, each in a variable. -/
theorem results_cell2 {P : Program} {fn : Func} {p q : Tmp} {t1 t2 : TypeId} (h : fn.results = #[.cell p t1, .cell q t2]) (tmps : Array Value) (w : World) (A1 A2 : Addr) (v1 v2 : Value)
    (hp : tmps.getD p undef = .pointer (some A1)) (hq : tmps.getD q undef = .pointer (some A2)) (h1 : (loadVar t1 A1).run P w = .ok v1 w) (h2 : (loadVar t2 A2).run P w = .ok v2 w) :
    (results fn tmps).run P w = .ok (.tuple #[v1, v2]) w := by
  have hp' : tmps[p]?.getD undef = .pointer (some A1) := by simpa using hp
  have hq' : tmps[q]?.getD undef = .pointer (some A2) := by simpa using hq
  simp [results, h, hp', hq', asAddr, h1, h2]
end Go.Proofs.YtdnkeeedcnjofaaGreatDoor


/-
  The library's contracts of math/bits that the walks of this claim use, laid at this program.
-/
namespace Go.Proofs
open Go.Shelf
def Tryz.lays129_ren : Go.Shelf.Ren := ⟨fun | 129 => 67 | n => n, fun | 53 => 59 | 3 => 3 | 4 => 4 | 46 => 92 | 5 => 5 | 9 => 9 | n => n, fun | n => n⟩
theorem Tryz.lays129 : Go.Proofs.Lays.n129 Tryz.prog Tryz.lays129_ren := {
  mixed := by kernel_rfl
  f129 := Tryz.func67.trans (congrArg some (by kernel_rfl))
  t3 := Tryz.underlying3
  a3 := Tryz.isAgg3
  z3 := Tryz.sizeOf3
  v3 := Tryz.zeroValue3
  t4 := Tryz.underlying4
  a4 := Tryz.isAgg4
  z4 := Tryz.sizeOf4
  v4 := Tryz.zeroValue4
  t5 := Tryz.underlying5
  a5 := Tryz.isAgg5
  z5 := Tryz.sizeOf5
  v5 := Tryz.zeroValue5
  t9 := Tryz.underlying9
  a9 := Tryz.isAgg9
  z9 := Tryz.sizeOf9
  v9 := Tryz.zeroValue9
  t46 := Tryz.underlying92
  a46 := Tryz.isAgg92
  z46 := Tryz.sizeOf92
  v46 := Tryz.zeroValue92
  t53 := Tryz.underlying59
  a53 := Tryz.isAgg59
  z53 := Tryz.sizeOf59
  v53 := Tryz.zeroValue59 }
theorem Tryz.bits_Len64 (x : Int) (w : World) (h0 : 0 ≤ x) (h1 : x ≤ 18446744073709551615) :
    Calls Tryz.prog 67 #[.int .u64 x] w fun e w' => e = .returned (.int .i64 (Lib.bitLen x.toNat)) ∧ w' = w := Any.bits_Len64 Tryz.lays129 x w h0 h1
def Tryz.lays264_ren : Go.Shelf.Ren := ⟨fun | 264 => 77 | n => n, fun | 53 => 59 | 46 => 92 | n => n, fun | n => n⟩
theorem Tryz.lays264 : Go.Proofs.Lays.n264 Tryz.prog Tryz.lays264_ren := {
  mixed := by kernel_rfl
  f264 := Tryz.func77.trans (congrArg some (by kernel_rfl))
  t46 := Tryz.underlying92
  a46 := Tryz.isAgg92
  z46 := Tryz.sizeOf92
  v46 := Tryz.zeroValue92
  t53 := Tryz.underlying59
  a53 := Tryz.isAgg59
  z53 := Tryz.sizeOf59
  v53 := Tryz.zeroValue59 }
open Go.RowKit Go.Lib in
theorem Tryz.bits_Mul64 (x y : Nat) (hx : x < 18446744073709551616) (hy : y < 18446744073709551616) (w : World) :
    Calls Tryz.prog 77 #[.int .u64 x, .int .u64 y] w fun e w' => e = .returned (.tuple #[.int .u64 ((x * y / 18446744073709551616 : Nat) : Int), .int .u64 ((x * y % 18446744073709551616 : Nat) : Int)]) ∧ w' = w := Any.bits_Mul64 Tryz.lays264 x y hx hy w
namespace YtdnkeeedcnjofaaGreatDoor
open Go.RowKit

/-- bits.Add64 and bits.Sub64, as a walk meets them. -/
theorem add64 (x y c : Int) (hx : 0 ≤ x) (hx' : x < 18446744073709551616) (hy : 0 ≤ y) (hy' : y < 18446744073709551616) (hc0 : 0 ≤ c) (hc : c ≤ 1) (w : World) : (callFunc 78 #[.int .u64 x, .int .u64 y, .int .u64 c]).run Tryz.prog w =
    .ok (.value (.tuple #[.int .u64 ((x + y + c) % 18446744073709551616), .int .u64 ((x + y + c) / 18446744073709551616)])) w := by
  obtain ⟨x, rfl⟩ := Int.eq_ofNat_of_zero_le hx
  obtain ⟨y, rfl⟩ := Int.eq_ofNat_of_zero_le hy
  obtain ⟨c, rfl⟩ := Int.eq_ofNat_of_zero_le hc0
  rw [run_callFunc_extern Tryz.func78 (by kernel_rfl) (by kernel_rfl) (by kernel_rfl) (e := add64Entry) (by kernel_rfl), run_add64 x y c (by omega) (by omega) (by omega) (by omega)]
  simp only [Result.andThen]
end YtdnkeeedcnjofaaGreatDoor
end Go.Proofs


/-
  The walks of parts, bits, cmp: how many digits, how many bits, which is greater.
-/
set_option linter.unusedVariables false
namespace Go.Proofs.YtdnkeeedcnjofaaGreatDoor
open Go.RowKit

/-- How many digits of the first n there are up to the last one that is not 0. -/
def ndTo (v : Nat) : Nat → Nat
  | 0 => 0
  | n + 1 => if dg v n = 0 then ndTo v n else n + 1
def nd (v : Nat) : Nat := ndTo v 16
theorem ndTo_le (v n : Nat) : ndTo v n ≤ n := by
  induction n with
  | zero => exact Nat.le_refl _
  | succ n ih => unfold ndTo; split <;> omega
theorem nd_le (v : Nat) : nd v ≤ 16 := ndTo_le v 16

theorem parts_any (g o v : Nat) (w : World) (hd : Digs w g o v) :
    Calls Tryz.prog 76 #[.pointer (some ⟨g, o, none⟩)] w fun e w' => e = .returned (.int .i64 (nd v)) ∧ w = w' := by
  have HD := Lib.hid hd
  clear hd
  have hle := nd_le v
  go_enter Tryz.func76, Tryz.ntmps76
  go_wp2
  go_loopw [3] (fun i wr => wr = w ∧ ∃ n : Nat, n ≤ 16 ∧ i = .int .i64 n ∧ ndTo v n = nd v) (fun i _ => (intOf i).toNat)
  case atStart => exact ⟨rfl, 16, Nat.le_refl _, rfl, rfl⟩
  case round =>
    obtain ⟨rfl, n, hn, rfl, hq⟩ := hrel
    match n, hn, hq with
    | 0, hn, hq =>
      have hq' : nd v = 0 := hq.symm
      go_wp2_with fail
      go_ret
      exact ⟨by rw [hq']; rfl, rfl⟩
    | n + 1, hn, hq =>
      have hc := HD.out n (by omega)
      have e1 : ((n + 1 : Nat) : Int) - 1 = n := by omega
      by_cases hz : dg v n = 0
      · have hq2 : ndTo v n = nd v := by rw [← hq]; rw [ndTo, if_pos hz]
        rw [hz] at hc
        go_wp2_with fail
        go_roundw
        case rel => exact ⟨by first | trivial | rfl, n, by omega, by go_num, hq2⟩
        case measure => simp [intOf]
      · have hq2 : nd v = n + 1 := by rw [← hq]; rw [ndTo, if_neg hz]
        go_wp2_with fail
        go_ret
        exact ⟨by rw [hq2]; rfl, rfl⟩

/-- The bits of a digit. -/
def lb (n : Nat) : Nat := Lib.bitLen n
theorem lb_le (n : Nat) (h : n < 18446744073709551616) : lb n ≤ 64 := Lib.bitLen_le n 64 (Nat.le_refl _) h

/-- bits.Len64, as a walk meets it. -/
theorem len64_any (n : Nat) (hn : n < 18446744073709551616) (w : World) : Calls Tryz.prog 67 #[.int .u64 n] w fun e w' => e = .returned (.int .i64 (lb n)) ∧ w = w' :=
  (Tryz.bits_Len64 n w (by omega) (by omega)).mono fun e w' h => ⟨h.1, h.2.symm⟩

/-- How many bits. -/
def bl (v : Nat) : Nat := if nd v = 0 then 0 else 64 * (nd v - 1) + lb (dg v (nd v - 1))

theorem bits_any (g o v : Nat) (w : World) (hd : Digs w g o v) :
    Calls Tryz.prog 96 #[.pointer (some ⟨g, o, none⟩)] w fun e w' => e = .returned (.int .i64 (bl v)) ∧ w = w' := by
  have HD := Lib.hid hd
  clear hd
  have hle := nd_le v
  go_enter Tryz.func96, Tryz.ntmps96
  go_wp2_with fail
  refine (parts_any g o v _ HD.out).mono ?_
  rintro e w' ⟨rfl, rfl⟩
  by_cases hz : nd v = 0
  · have hb : bl v = 0 := by unfold bl; rw [if_pos hz]
    rw [hz]
    go_wp2_with fail
    go_ret
    exact ⟨by rw [hb]; rfl, rfl⟩
  · obtain ⟨n, hn⟩ : ∃ n, nd v = n + 1 := ⟨nd v - 1, by omega⟩
    have hb : bl v = 64 * n + lb (dg v n) := by unfold bl; rw [if_neg hz, hn]; rfl
    rw [hn]
    have e1 : ((n + 1 : Nat) : Int) - 1 = n := by omega
    have hc := HD.out n (by omega)
    have hlt := dg_lt v n
    have hlb := lb_le _ hlt
    have hw : wrap64 (64 * (n : Int) + (lb (dg v n) : Int)) = ((64 * n + lb (dg v n) : Nat) : Int) := by unfold wrap64; omega
    go_wp2_with fail
    refine (len64_any _ hlt _).mono ?_
    rintro e w' ⟨rfl, rfl⟩
    go_wp2_with fail
    go_ret
    exact ⟨by rw [hb]; exact ret_int (by omega), rfl⟩

/-- Which is greater. -/
def cm (a b : Nat) : Int := if a < b then -1 else if b < a then 1 else 0

theorem cmp_any (g o a h p b : Nat) (w : World) (hd : Digs w g o a) (he : Digs w h p b) (ha : a < Bs ^ 16) (hb : b < Bs ^ 16) :
    Calls Tryz.prog 74 #[.pointer (some ⟨g, o, none⟩), .pointer (some ⟨h, p, none⟩)] w fun e w' => e = .returned (.int .i64 (cm a b)) ∧ Below w.heap.size w w' ∧ w.heap.size = w'.heap.size := by
  have HD := Lib.hid hd
  have HE := Lib.hid he
  clear hd he
  go_enter Tryz.func74, Tryz.ntmps74
  go_wp2
  go_loopw [5] (fun i wr => (∃ n : Nat, n ≤ 16 ∧ i = .int .i64 (n - 1) ∧ a / Bs ^ n = b / Bs ^ n) ∧ Below w.heap.size w wr ∧ w.heap.size = wr.heap.size) (fun i _ => (intOf i + 1).toNat)
  case atStart => exact ⟨⟨16, by omega, rfl, by rw [Nat.div_eq_of_lt ha, Nat.div_eq_of_lt hb]⟩, Below.refl _ _, rfl⟩
  case round =>
    obtain ⟨⟨n, hn, rfl, hq⟩, hbel, hsz⟩ := hrel
    match n, hn, hq with
    | 0, hn, hq =>
      simp only [Nat.pow_zero, Nat.div_one] at hq
      have hc : cm a b = 0 := by unfold cm; rw [if_neg (by omega), if_neg (by omega)]
      go_wp2_with fail
      go_ret
      exact ⟨by rw [hc]; rfl, hbel, hsz⟩
    | n + 1, hn, hq =>
      have e1 : ((n + 1 : Nat) : Int) - 1 = n := by omega
      rw [e1]
      have c1 : wr.cell? ⟨g, o + n, none⟩ = some (.int .u64 ((dg a n : Nat) : Int)) := (hbel.cell (p := ⟨g, o + n, none⟩) HD.out.lt).trans (HD.out n (by omega))
      have c2 : wr.cell? ⟨h, p + n, none⟩ = some (.int .u64 ((dg b n : Nat) : Int)) := (hbel.cell (p := ⟨h, p + n, none⟩) HE.out.lt).trans (HE.out n (by omega))
      have s1 := dg_step a n
      have s2 := dg_step b n
      rw [hq] at s1
      have hbel1 : Below w.heap.size w wr.drew := hbel.drew
      by_cases hlt : dg a n < dg b n
      · have hcm : cm a b = -1 := by
          unfold cm
          have key : a < b := Nat.lt_of_div_lt_div (c := Bs ^ n) (by omega)
          rw [if_pos key]
        clear s1 s2 hq
        have hlt' : ((dg a n : Nat) : Int) < ((dg b n : Nat) : Int) := by omega
        go_wp2_with fail
        go_region
        go_wp2_with fail
        go_ret
        exact ⟨by rw [hcm]; rfl, by repeat (first | with_reducible exact hbel | with_reducible apply Below.drew | with_reducible apply below_drewN), hsz⟩
      · have hlt' : decide (((dg a n : Nat) : Int) < ((dg b n : Nat) : Int)) = false := decide_eq_false (by omega)
        by_cases hgt : dg b n < dg a n
        · have hcm : cm a b = 1 := by
            unfold cm
            have key : b < a := Nat.lt_of_div_lt_div (c := Bs ^ n) (by omega)
            rw [if_neg (by omega), if_pos key]
          clear s1 s2 hq
          have hgt' : ((dg b n : Nat) : Int) < ((dg a n : Nat) : Int) := by omega
          go_wp2_with fail
          go_region
          go_wp2_with fail
          go_region
          go_wp2_with fail
          go_ret
          exact ⟨by rw [hcm]; rfl, by repeat (first | with_reducible exact hbel | with_reducible apply Below.drew | with_reducible apply below_drewN), hsz⟩
        · have hgt' : decide (((dg b n : Nat) : Int) < ((dg a n : Nat) : Int)) = false := decide_eq_false (by omega)
          have hqq : a / Bs ^ n = b / Bs ^ n := by omega
          clear s1 s2 hq
          go_wp2_with fail
          go_region
          go_wp2_with fail
          go_region
          go_wp2_with fail
          go_roundw
          case rel => exact ⟨⟨n, by omega, by go_num, hqq⟩, by repeat (first | with_reducible exact hbel | with_reducible apply Below.drew | with_reducible apply below_drewN), hsz⟩
          case measure => simp [intOf]
end Go.Proofs.YtdnkeeedcnjofaaGreatDoor


/-
  The walk of add: two numbers of sixteen digits together.
-/
set_option linter.unusedVariables false
namespace Go.Proofs.YtdnkeeedcnjofaaGreatDoor
open Go.RowKit

/-- The digits of a sum, as far as they are reckoned. -/
def addTo (a b i : Nat) : Nat → Nat := fun j => if j < i then dg (a + b) j else 0

set_option maxHeartbeats 1000000 in
theorem add_any (g o a h p b : Nat) (w : World) (hd : Digs w g o a) (he : Digs w h p b) :
    Calls Tryz.prog 72 #[.pointer (some ⟨g, o, none⟩), .pointer (some ⟨h, p, none⟩)] w fun e w' => e = .returned (.tuple #[.agg (sz (a + b)), .int .u64 (cry a b 16)]) ∧ Below w.heap.size w w' := by
  have HD := Lib.hid hd
  have HE := Lib.hid he
  clear hd he
  go_enter Tryz.func72, Tryz.ntmps72
  go_wp2
  go_loopw [7, 9] (fun c i wr => ∃ k : Nat, k ≤ 16 ∧ i = .int .i64 k ∧ c = .int .u64 (cry a b k) ∧ IsRow wr (w.heap.size + 1) 61 (lim 16 (addTo a b k)) ∧ IsRow wr w.heap.size 61 (sz 0) ∧ Below w.heap.size w wr) (fun _ i _ => 16 - (intOf i).toNat)
  case atStart =>
    refine ⟨0, by omega, rfl, by rw [cry_zero]; rfl, ?_, ?_, by repeat (first | with_reducible exact Below.refl _ _ | with_reducible refine Below.alloc ?_ (by first | (simp; done) | (simp; omega) | omega) _)⟩
    · rw [lim_same 16 (addTo a b 0) (dg 0) (fun j _ => by rw [dg_zero]; unfold addTo; rw [if_neg (by omega)])]
      rw [← sz_zero]
      have := IsRow.new (w.alloc (.cells (sz 0) 61)) (sz 0) 61
      rw [show (w.alloc (.cells (sz 0) 61)).heap.size = w.heap.size + 1 from by simp] at this
      exact this
    · rw [← sz_zero]
      exact (IsRow.new _ _ _).alloc _
  case round =>
    obtain ⟨k, hk, rfl, rfl, hrow, hres, hbel⟩ := hrel
    by_cases hlt : k < 16
    · have c1 : wr.cell? ⟨g, o + k, none⟩ = some (.int .u64 ((dg a k : Nat) : Int)) := (hbel.cell (p := ⟨g, o + k, none⟩) HD.out.lt).trans (HD.out k hlt)
      have c2 : wr.cell? ⟨h, p + k, none⟩ = some (.int .u64 ((dg b k : Nat) : Int)) := (hbel.cell (p := ⟨h, p + k, none⟩) HE.out.lt).trans (HE.out k hlt)
      have c3 := hrow.cell (lim_get 16 (addTo a b k) k hlt)
      have f3 := hrow.frozen k
      have hz := hbel.size
      have q1 := dg_lt a k
      have q2 := dg_lt b k
      have q3 := cry_le a b k
      have ha : ∀ w : World, (callFunc 78 #[.int .u64 (dg a k : Nat), .int .u64 (dg b k : Nat), .int .u64 (cry a b k : Nat)]).run Tryz.prog w =
        .ok (.value (.tuple #[.int .u64 (dg (a + b) k : Nat), .int .u64 (cry a b (k + 1) : Nat)])) w := fun w => by
        rw [add64 _ _ _ (by omega) (by omega) (by omega) (by omega) (by omega) (by omega)]
        have e1 := cry_dig a b k
        have e2 := cry_next a b k
        rw [show ((dg a k : Nat) : Int) + (dg b k : Nat) + (cry a b k : Nat) = ((dg a k + dg b k + cry a b k : Nat) : Int) from by omega]
        rw [show (((dg a k + dg b k + cry a b k : Nat) : Int) % 18446744073709551616) = ((dg (a + b) k : Nat) : Int) from by omega]
        rw [show (((dg a k + dg b k + cry a b k : Nat) : Int) / 18446744073709551616) = ((cry a b (k + 1) : Nat) : Int) from by omega]
      go_wp2_with fail
      go_region
      go_wp2_with fail
      go_roundw
      case rel =>
        refine ⟨k + 1, by omega, by go_num, rfl, ?_, ?_, by repeat (first | with_reducible exact hbel | with_reducible apply Below.drew | with_reducible apply below_drewN | with_reducible refine Below.setCell ?_ (by first | (simp; done) | (simp; omega) | omega) _)⟩
        · have := hrow.drew.set k (.int .u64 (dg (a + b) k : Nat))
          rw [lim_set 16 (addTo a b k) (addTo a b (k + 1)) k _ hlt (by unfold addTo; rw [if_pos (by omega)]) (fun j hj hne => by unfold addTo; by_cases hjk : j < k <;> simp [hjk, show j < k + 1 ↔ j < k by omega])] at this
          exact this
        · exact hres.drew.setOther _ _ (by simp)
      case measure => simp [intOf]; omega
    · obtain rfl : k = 16 := by omega
      rw [lim_same 16 (addTo a b 16) (dg (a + b)) (fun j hj => by unfold addTo; rw [if_pos hj])] at hrow
      have hrow' : IsRow wr (w.heap.size + 1) 61 (sz (a + b)) := hrow
      clear hrow
      go_wp2_with (first | (refine wpList_load_row rfl 61 _ rfl (w.heap.size + 1) rfl _ (sz (a + b)) _ _ hrow' Tryz.underlying61 rfl (by rw [sz_size]; kernel_rfl) ?_) | (refine wpList_store_row rfl 61 _ _ rfl w.heap.size (sz (a + b)) rfl rfl _ (sz 0) hres (by rw [sz_size]; kernel_rfl) (by simp) (sz_one _) ?_))
      have hrow2 := hres.row (sz (a + b))
      have hl := run_loadVar_row (P := Tryz.prog) (wr.setRow w.heap.size (sz (a + b))) w.heap.size _ 61 (sz (a + b)) _ _ hrow2 Tryz.underlying61 rfl (by rw [sz_size]; kernel_rfl)
      refine bodyPost_ret (v := .tuple #[.agg (sz (a + b)), .int .u64 (cry a b 16 : Nat)]) (by simp [results, Tryz.results72, asAddr, hl]) rfl ⟨rfl, below_setRow hbel (Nat.le_refl _) _⟩
end Go.Proofs.YtdnkeeedcnjofaaGreatDoor
