/-
  The types of this seat's program, as the evaluator reads them. Printed by a small program.
-/
import Derived.Test.YtijiggkhnpmaiaaGreatProg
import Derived.KernelRfl
import Derived.MapKept
import Derived.Shelf.SlIterI.Nil
import Derived.Shelf.SortM.Plain
import Derived.Shelf.SortM.SortNone
import Derived.Ground.GgzProg
import Derived.Ground.SlgmProg
import Derived.WideShapes
import Derived.WalkKit
import Derived.WalkSpells
import Derived.WalkLawsBesides
import Derived.ProofKit
import Derived.OpenShut
import Derived.ChangeOld
import Derived.SizedLaws
import Derived.Lib.Hide
import Derived.Deep.Slices
import Derived.Test.YtijiggkhnpmaiaaGreatM2
set_option linter.unusedVariables false
set_option maxRecDepth 10000
namespace Go.Proofs.YtijiggkhnpmaiaaGreat.Sx
open Go
noncomputable def tys : Tys := [(0, Tryz.t0, Tryz.t0.desc),
  (1, Tryz.t1, Tryz.t1.desc),
  (2, Tryz.t2, Tryz.t2.desc),
  (3, Tryz.t3, Tryz.t3.desc),
  (4, Tryz.t4, Tryz.t4.desc),
  (5, Tryz.t5, Tryz.t5.desc),
  (6, Tryz.t6, Tryz.t5.desc),
  (7, Tryz.t7, Tryz.t7.desc),
  (8, Tryz.t8, Tryz.t7.desc),
  (9, Tryz.t9, Tryz.t9.desc),
  (10, Tryz.t10, Tryz.t9.desc),
  (11, Tryz.t11, Tryz.t9.desc),
  (12, Tryz.t12, Tryz.t12.desc),
  (13, Tryz.t13, Tryz.t13.desc),
  (14, Tryz.t14, Tryz.t13.desc),
  (15, Tryz.t15, Tryz.t15.desc),
  (16, Tryz.t16, Tryz.t16.desc),
  (17, Tryz.t17, Tryz.t17.desc),
  (18, Tryz.t18, Tryz.t18.desc),
  (19, Tryz.t19, Tryz.t18.desc),
  (20, Tryz.t20, Tryz.t20.desc),
  (21, Tryz.t21, Tryz.t21.desc),
  (22, Tryz.t22, Tryz.t22.desc),
  (23, Tryz.t23, Tryz.t22.desc),
  (24, Tryz.t24, Tryz.t24.desc),
  (25, Tryz.t25, Tryz.t24.desc),
  (26, Tryz.t26, Tryz.t26.desc),
  (27, Tryz.t27, Tryz.t26.desc),
  (28, Tryz.t28, Tryz.t28.desc),
  (29, Tryz.t29, Tryz.t28.desc),
  (30, Tryz.t30, Tryz.t30.desc),
  (31, Tryz.t31, Tryz.t31.desc),
  (32, Tryz.t32, Tryz.t31.desc),
  (33, Tryz.t33, Tryz.t33.desc),
  (34, Tryz.t34, Tryz.t34.desc),
  (35, Tryz.t35, Tryz.t35.desc),
  (36, Tryz.t36, Tryz.t3.desc),
  (37, Tryz.t37, Tryz.t37.desc),
  (38, Tryz.t38, Tryz.t38.desc),
  (39, Tryz.t39, Tryz.t39.desc),
  (40, Tryz.t40, Tryz.t40.desc),
  (41, Tryz.t41, Tryz.t40.desc),
  (42, Tryz.t42, Tryz.t42.desc),
  (43, Tryz.t43, Tryz.t43.desc),
  (44, Tryz.t44, Tryz.t44.desc),
  (45, Tryz.t45, Tryz.t45.desc),
  (46, Tryz.t46, Tryz.t46.desc),
  (47, Tryz.t47, Tryz.t47.desc),
  (48, Tryz.t48, Tryz.t48.desc),
  (49, Tryz.t49, Tryz.t49.desc),
  (50, Tryz.t50, Tryz.t49.desc),
  (51, Tryz.t51, Tryz.t51.desc),
  (52, Tryz.t52, Tryz.t52.desc),
  (53, Tryz.t53, Tryz.t53.desc),
  (54, Tryz.t54, Tryz.t54.desc),
  (55, Tryz.t55, Tryz.t55.desc),
  (56, Tryz.t56, Tryz.t56.desc),
  (57, Tryz.t57, Tryz.t57.desc),
  (58, Tryz.t58, Tryz.t57.desc),
  (59, Tryz.t59, Tryz.t59.desc),
  (60, Tryz.t60, Tryz.t60.desc),
  (61, Tryz.t61, Tryz.t61.desc),
  (62, Tryz.t62, Tryz.t61.desc),
  (63, Tryz.t63, Tryz.t63.desc),
  (64, Tryz.t64, Tryz.t64.desc),
  (65, Tryz.t65, Tryz.t65.desc),
  (66, Tryz.t66, Tryz.t66.desc),
  (67, Tryz.t67, Tryz.t67.desc),
  (68, Tryz.t68, Tryz.t68.desc),
  (69, Tryz.t69, Tryz.t69.desc),
  (70, Tryz.t70, Tryz.t69.desc),
  (71, Tryz.t71, Tryz.t71.desc),
  (72, Tryz.t72, Tryz.t72.desc),
  (73, Tryz.t73, Tryz.t73.desc),
  (74, Tryz.t74, Tryz.t73.desc),
  (75, Tryz.t75, Tryz.t75.desc),
  (76, Tryz.t76, Tryz.t76.desc),
  (77, Tryz.t77, Tryz.t77.desc),
  (78, Tryz.t78, Tryz.t78.desc),
  (79, Tryz.t79, Tryz.t79.desc),
  (80, Tryz.t80, Tryz.t80.desc),
  (81, Tryz.t81, Tryz.t81.desc),
  (82, Tryz.t82, Tryz.t82.desc),
  (83, Tryz.t83, Tryz.t83.desc),
  (84, Tryz.t84, Tryz.t84.desc),
  (85, Tryz.t85, Tryz.t85.desc),
  (86, Tryz.t86, Tryz.t86.desc),
  (87, Tryz.t87, Tryz.t87.desc),
  (88, Tryz.t88, Tryz.t87.desc),
  (89, Tryz.t89, Tryz.t89.desc),
  (90, Tryz.t90, Tryz.t89.desc),
  (91, Tryz.t91, Tryz.t91.desc),
  (92, Tryz.t92, Tryz.t92.desc),
  (93, Tryz.t93, Tryz.t93.desc),
  (94, Tryz.t94, Tryz.t94.desc),
  (95, Tryz.t95, Tryz.t95.desc),
  (96, Tryz.t96, Tryz.t95.desc),
  (97, Tryz.t97, Tryz.t97.desc),
  (98, Tryz.t98, Tryz.t98.desc),
  (99, Tryz.t99, Tryz.t99.desc),
  (100, Tryz.t100, Tryz.t100.desc),
  (101, Tryz.t101, Tryz.t101.desc),
  (102, Tryz.t102, Tryz.t102.desc),
  (103, Tryz.t103, Tryz.t103.desc),
  (104, Tryz.t104, Tryz.t104.desc),
  (105, Tryz.t105, Tryz.t104.desc),
  (106, Tryz.t106, Tryz.t106.desc),
  (107, Tryz.t107, Tryz.t107.desc),
  (108, Tryz.t108, Tryz.t108.desc),
  (109, Tryz.t109, Tryz.t109.desc),
  (110, Tryz.t110, Tryz.t110.desc),
  (111, Tryz.t111, Tryz.t110.desc),
  (112, Tryz.t112, Tryz.t112.desc),
  (113, Tryz.t113, Tryz.t113.desc),
  (114, Tryz.t114, Tryz.t114.desc),
  (115, Tryz.t115, Tryz.t115.desc),
  (116, Tryz.t116, Tryz.t115.desc),
  (117, Tryz.t117, Tryz.t117.desc),
  (118, Tryz.t118, Tryz.t118.desc),
  (119, Tryz.t119, Tryz.t119.desc),
  (120, Tryz.t120, Tryz.t119.desc),
  (121, Tryz.t121, Tryz.t121.desc),
  (122, Tryz.t122, Tryz.t121.desc),
  (123, Tryz.t123, Tryz.t123.desc),
  (124, Tryz.t124, Tryz.t124.desc),
  (125, Tryz.t125, Tryz.t125.desc),
  (126, Tryz.t126, Tryz.t126.desc),
  (127, Tryz.t127, Tryz.t127.desc),
  (128, Tryz.t128, Tryz.t128.desc),
  (129, Tryz.t129, Tryz.t129.desc),
  (130, Tryz.t130, Tryz.t130.desc),
  (131, Tryz.t131, Tryz.t131.desc),
  (132, Tryz.t132, Tryz.t132.desc),
  (133, Tryz.t133, Tryz.t133.desc),
  (134, Tryz.t134, Tryz.t134.desc),
  (135, Tryz.t135, Tryz.t135.desc),
  (136, Tryz.t136, Tryz.t136.desc),
  (137, Tryz.t137, Tryz.t137.desc),
  (138, Tryz.t138, Tryz.t138.desc),
  (139, Tryz.t139, Tryz.t139.desc),
  (140, Tryz.t140, Tryz.t140.desc),
  (141, Tryz.t141, Tryz.t141.desc),
  (142, Tryz.t142, Tryz.t142.desc),
  (143, Tryz.t143, Tryz.t143.desc),
  (144, Tryz.t144, Tryz.t144.desc),
  (145, Tryz.t145, Tryz.t145.desc),
  (146, Tryz.t146, Tryz.t146.desc),
  (147, Tryz.t147, Tryz.t147.desc),
  (148, Tryz.t148, Tryz.t148.desc),
  (149, Tryz.t149, Tryz.t149.desc),
  (150, Tryz.t150, Tryz.t150.desc),
  (151, Tryz.t151, Tryz.t151.desc),
  (152, Tryz.t152, Tryz.t152.desc),
  (153, Tryz.t153, Tryz.t152.desc),
  (154, Tryz.t154, Tryz.t154.desc),
  (155, Tryz.t155, Tryz.t155.desc),
  (156, Tryz.t156, Tryz.t156.desc),
  (157, Tryz.t157, Tryz.t157.desc),
  (158, Tryz.t158, Tryz.t158.desc),
  (159, Tryz.t159, Tryz.t159.desc),
  (160, Tryz.t160, Tryz.t160.desc),
  (161, Tryz.t161, Tryz.t161.desc),
  (162, Tryz.t162, Tryz.t162.desc),
  (163, Tryz.t163, Tryz.t162.desc),
  (164, Tryz.t164, Tryz.t164.desc),
  (165, Tryz.t165, Tryz.t165.desc),
  (166, Tryz.t166, Tryz.t166.desc),
  (167, Tryz.t167, Tryz.t167.desc),
  (168, Tryz.t168, Tryz.t168.desc),
  (169, Tryz.t169, Tryz.t169.desc),
  (170, Tryz.t170, Tryz.t169.desc),
  (171, Tryz.t171, Tryz.t171.desc),
  (172, Tryz.t172, Tryz.t172.desc),
  (173, Tryz.t173, Tryz.t172.desc),
  (174, Tryz.t174, Tryz.t174.desc),
  (175, Tryz.t175, Tryz.t175.desc),
  (176, Tryz.t176, Tryz.t176.desc),
  (177, Tryz.t177, Tryz.t176.desc),
  (178, Tryz.t178, Tryz.t178.desc),
  (179, Tryz.t179, Tryz.t178.desc),
  (180, Tryz.t180, Tryz.t180.desc),
  (181, Tryz.t181, Tryz.t181.desc),
  (182, Tryz.t182, Tryz.t182.desc),
  (183, Tryz.t183, Tryz.t183.desc),
  (184, Tryz.t184, Tryz.t184.desc),
  (185, Tryz.t185, Tryz.t185.desc),
  (186, Tryz.t186, Tryz.t186.desc),
  (187, Tryz.t187, Tryz.t187.desc),
  (188, Tryz.t188, Tryz.t188.desc),
  (189, Tryz.t189, Tryz.t189.desc),
  (190, Tryz.t190, Tryz.t190.desc),
  (191, Tryz.t191, Tryz.t191.desc),
  (192, Tryz.t192, Tryz.t192.desc),
  (193, Tryz.t193, Tryz.t193.desc),
  (194, Tryz.t194, Tryz.t194.desc),
  (195, Tryz.t195, Tryz.t195.desc),
  (196, Tryz.t196, Tryz.t196.desc),
  (197, Tryz.t197, Tryz.t197.desc),
  (198, Tryz.t198, Tryz.t198.desc),
  (199, Tryz.t199, Tryz.t199.desc),
  (200, Tryz.t200, Tryz.t200.desc),
  (201, Tryz.t201, Tryz.t201.desc),
  (202, Tryz.t202, Tryz.t202.desc),
  (203, Tryz.t203, Tryz.t202.desc),
  (204, Tryz.t204, Tryz.t204.desc),
  (205, Tryz.t205, Tryz.t205.desc),
  (206, Tryz.t206, Tryz.t206.desc),
  (207, Tryz.t207, Tryz.t207.desc),
  (208, Tryz.t208, Tryz.t208.desc),
  (209, Tryz.t209, Tryz.t209.desc),
  (210, Tryz.t210, Tryz.t3.desc),
  (211, Tryz.t211, Tryz.t211.desc),
  (212, Tryz.t212, Tryz.t212.desc),
  (213, Tryz.t213, Tryz.t213.desc),
  (214, Tryz.t214, Tryz.t214.desc),
  (215, Tryz.t215, Tryz.t215.desc),
  (216, Tryz.t216, Tryz.t216.desc),
  (217, Tryz.t217, Tryz.t217.desc),
  (218, Tryz.t218, Tryz.t218.desc),
  (219, Tryz.t219, Tryz.t219.desc),
  (220, Tryz.t220, Tryz.t220.desc),
  (221, Tryz.t221, Tryz.t221.desc),
  (222, Tryz.t222, Tryz.t222.desc),
  (223, Tryz.t223, Tryz.t223.desc),
  (224, Tryz.t224, Tryz.t224.desc),
  (225, Tryz.t225, Tryz.t225.desc),
  (226, Tryz.t226, Tryz.t226.desc),
  (227, Tryz.t227, Tryz.t227.desc),
  (228, Tryz.t228, Tryz.t228.desc),
  (229, Tryz.t229, Tryz.t229.desc),
  (230, Tryz.t230, Tryz.t230.desc),
  (231, Tryz.t231, Tryz.t231.desc),
  (232, Tryz.t232, Tryz.t232.desc),
  (233, Tryz.t233, Tryz.t233.desc),
  (234, Tryz.t234, Tryz.t234.desc),
  (235, Tryz.t235, Tryz.t235.desc),
  (236, Tryz.t236, Tryz.t236.desc),
  (237, Tryz.t237, Tryz.t237.desc),
  (238, Tryz.t238, Tryz.t237.desc),
  (239, Tryz.t239, Tryz.t239.desc),
  (240, Tryz.t240, Tryz.t240.desc),
  (241, Tryz.t241, Tryz.t241.desc),
  (242, Tryz.t242, Tryz.t242.desc),
  (243, Tryz.t243, Tryz.t242.desc),
  (244, Tryz.t244, Tryz.t244.desc),
  (245, Tryz.t245, Tryz.t245.desc),
  (246, Tryz.t246, Tryz.t246.desc),
  (247, Tryz.t247, Tryz.t137.desc),
  (248, Tryz.t248, Tryz.t248.desc),
  (249, Tryz.t249, Tryz.t249.desc),
  (250, Tryz.t250, Tryz.t250.desc),
  (251, Tryz.t251, Tryz.t251.desc),
  (252, Tryz.t252, Tryz.t252.desc),
  (253, Tryz.t253, Tryz.t253.desc),
  (254, Tryz.t254, Tryz.t254.desc),
  (255, Tryz.t255, Tryz.t255.desc),
  (256, Tryz.t256, Tryz.t256.desc),
  (257, Tryz.t257, Tryz.t257.desc),
  (258, Tryz.t258, Tryz.t258.desc),
  (259, Tryz.t259, Tryz.t259.desc),
  (260, Tryz.t260, Tryz.t260.desc),
  (261, Tryz.t261, Tryz.t261.desc),
  (262, Tryz.t262, Tryz.t262.desc),
  (263, Tryz.t263, Tryz.t262.desc),
  (264, Tryz.t264, Tryz.t264.desc),
  (265, Tryz.t265, Tryz.t264.desc),
  (266, Tryz.t266, Tryz.t266.desc),
  (267, Tryz.t267, Tryz.t267.desc),
  (268, Tryz.t268, Tryz.t268.desc),
  (269, Tryz.t269, Tryz.t269.desc),
  (270, Tryz.t270, Tryz.t270.desc),
  (271, Tryz.t271, Tryz.t271.desc),
  (272, Tryz.t272, Tryz.t272.desc),
  (273, Tryz.t273, Tryz.t273.desc),
  (274, Tryz.t274, Tryz.t274.desc),
  (275, Tryz.t275, Tryz.t275.desc),
  (276, Tryz.t276, Tryz.t276.desc),
  (277, Tryz.t277, Tryz.t277.desc),
  (278, Tryz.t278, Tryz.t278.desc),
  (279, Tryz.t279, Tryz.t279.desc),
  (280, Tryz.t280, Tryz.t280.desc),
  (281, Tryz.t281, Tryz.t281.desc),
  (282, Tryz.t282, Tryz.t281.desc),
  (283, Tryz.t283, Tryz.t283.desc),
  (284, Tryz.t284, Tryz.t284.desc),
  (285, Tryz.t285, Tryz.t285.desc),
  (286, Tryz.t286, Tryz.t286.desc),
  (287, Tryz.t287, Tryz.t287.desc),
  (288, Tryz.t288, Tryz.t288.desc),
  (289, Tryz.t289, Tryz.t289.desc),
  (290, Tryz.t290, Tryz.t290.desc),
  (291, Tryz.t291, Tryz.t291.desc),
  (292, Tryz.t292, Tryz.t292.desc),
  (293, Tryz.t293, Tryz.t293.desc),
  (294, Tryz.t294, Tryz.t294.desc),
  (295, Tryz.t295, Tryz.t295.desc),
  (296, Tryz.t296, Tryz.t296.desc),
  (297, Tryz.t297, Tryz.t296.desc),
  (298, Tryz.t298, Tryz.t298.desc),
  (299, Tryz.t299, Tryz.t299.desc),
  (300, Tryz.t300, Tryz.t299.desc),
  (301, Tryz.t301, Tryz.t5.desc),
  (302, Tryz.t302, Tryz.t5.desc),
  (303, Tryz.t303, Tryz.t303.desc),
  (304, Tryz.t304, Tryz.t304.desc),
  (305, Tryz.t305, Tryz.t21.desc),
  (306, Tryz.t306, Tryz.t21.desc),
  (307, Tryz.t307, Tryz.t307.desc),
  (308, Tryz.t308, Tryz.t307.desc),
  (309, Tryz.t309, Tryz.t309.desc),
  (310, Tryz.t310, Tryz.t309.desc),
  (311, Tryz.t311, Tryz.t311.desc)]
theorem tysOK : TysOK Tryz.prog tys := TysAll.ok (
  ⟨⟨Tryz.type0, Tryz.underlying0⟩,
  ⟨⟨Tryz.type1, Tryz.underlying1⟩,
  ⟨⟨Tryz.type2, Tryz.underlying2⟩,
  ⟨⟨Tryz.type3, Tryz.underlying3⟩,
  ⟨⟨Tryz.type4, Tryz.underlying4⟩,
  ⟨⟨Tryz.type5, Tryz.underlying5⟩,
  ⟨⟨Tryz.type6, Tryz.underlying6⟩,
  ⟨⟨Tryz.type7, Tryz.underlying7⟩,
  ⟨⟨Tryz.type8, Tryz.underlying8⟩,
  ⟨⟨Tryz.type9, Tryz.underlying9⟩,
  ⟨⟨Tryz.type10, Tryz.underlying10⟩,
  ⟨⟨Tryz.type11, Tryz.underlying11⟩,
  ⟨⟨Tryz.type12, Tryz.underlying12⟩,
  ⟨⟨Tryz.type13, Tryz.underlying13⟩,
  ⟨⟨Tryz.type14, Tryz.underlying14⟩,
  ⟨⟨Tryz.type15, Tryz.underlying15⟩,
  ⟨⟨Tryz.type16, Tryz.underlying16⟩,
  ⟨⟨Tryz.type17, Tryz.underlying17⟩,
  ⟨⟨Tryz.type18, Tryz.underlying18⟩,
  ⟨⟨Tryz.type19, Tryz.underlying19⟩,
  ⟨⟨Tryz.type20, Tryz.underlying20⟩,
  ⟨⟨Tryz.type21, Tryz.underlying21⟩,
  ⟨⟨Tryz.type22, Tryz.underlying22⟩,
  ⟨⟨Tryz.type23, Tryz.underlying23⟩,
  ⟨⟨Tryz.type24, Tryz.underlying24⟩,
  ⟨⟨Tryz.type25, Tryz.underlying25⟩,
  ⟨⟨Tryz.type26, Tryz.underlying26⟩,
  ⟨⟨Tryz.type27, Tryz.underlying27⟩,
  ⟨⟨Tryz.type28, Tryz.underlying28⟩,
  ⟨⟨Tryz.type29, Tryz.underlying29⟩,
  ⟨⟨Tryz.type30, Tryz.underlying30⟩,
  ⟨⟨Tryz.type31, Tryz.underlying31⟩,
  ⟨⟨Tryz.type32, Tryz.underlying32⟩,
  ⟨⟨Tryz.type33, Tryz.underlying33⟩,
  ⟨⟨Tryz.type34, Tryz.underlying34⟩,
  ⟨⟨Tryz.type35, Tryz.underlying35⟩,
  ⟨⟨Tryz.type36, Tryz.underlying36⟩,
  ⟨⟨Tryz.type37, Tryz.underlying37⟩,
  ⟨⟨Tryz.type38, Tryz.underlying38⟩,
  ⟨⟨Tryz.type39, Tryz.underlying39⟩,
  ⟨⟨Tryz.type40, Tryz.underlying40⟩,
  ⟨⟨Tryz.type41, Tryz.underlying41⟩,
  ⟨⟨Tryz.type42, Tryz.underlying42⟩,
  ⟨⟨Tryz.type43, Tryz.underlying43⟩,
  ⟨⟨Tryz.type44, Tryz.underlying44⟩,
  ⟨⟨Tryz.type45, Tryz.underlying45⟩,
  ⟨⟨Tryz.type46, Tryz.underlying46⟩,
  ⟨⟨Tryz.type47, Tryz.underlying47⟩,
  ⟨⟨Tryz.type48, Tryz.underlying48⟩,
  ⟨⟨Tryz.type49, Tryz.underlying49⟩,
  ⟨⟨Tryz.type50, Tryz.underlying50⟩,
  ⟨⟨Tryz.type51, Tryz.underlying51⟩,
  ⟨⟨Tryz.type52, Tryz.underlying52⟩,
  ⟨⟨Tryz.type53, Tryz.underlying53⟩,
  ⟨⟨Tryz.type54, Tryz.underlying54⟩,
  ⟨⟨Tryz.type55, Tryz.underlying55⟩,
  ⟨⟨Tryz.type56, Tryz.underlying56⟩,
  ⟨⟨Tryz.type57, Tryz.underlying57⟩,
  ⟨⟨Tryz.type58, Tryz.underlying58⟩,
  ⟨⟨Tryz.type59, Tryz.underlying59⟩,
  ⟨⟨Tryz.type60, Tryz.underlying60⟩,
  ⟨⟨Tryz.type61, Tryz.underlying61⟩,
  ⟨⟨Tryz.type62, Tryz.underlying62⟩,
  ⟨⟨Tryz.type63, Tryz.underlying63⟩,
  ⟨⟨Tryz.type64, Tryz.underlying64⟩,
  ⟨⟨Tryz.type65, Tryz.underlying65⟩,
  ⟨⟨Tryz.type66, Tryz.underlying66⟩,
  ⟨⟨Tryz.type67, Tryz.underlying67⟩,
  ⟨⟨Tryz.type68, Tryz.underlying68⟩,
  ⟨⟨Tryz.type69, Tryz.underlying69⟩,
  ⟨⟨Tryz.type70, Tryz.underlying70⟩,
  ⟨⟨Tryz.type71, Tryz.underlying71⟩,
  ⟨⟨Tryz.type72, Tryz.underlying72⟩,
  ⟨⟨Tryz.type73, Tryz.underlying73⟩,
  ⟨⟨Tryz.type74, Tryz.underlying74⟩,
  ⟨⟨Tryz.type75, Tryz.underlying75⟩,
  ⟨⟨Tryz.type76, Tryz.underlying76⟩,
  ⟨⟨Tryz.type77, Tryz.underlying77⟩,
  ⟨⟨Tryz.type78, Tryz.underlying78⟩,
  ⟨⟨Tryz.type79, Tryz.underlying79⟩,
  ⟨⟨Tryz.type80, Tryz.underlying80⟩,
  ⟨⟨Tryz.type81, Tryz.underlying81⟩,
  ⟨⟨Tryz.type82, Tryz.underlying82⟩,
  ⟨⟨Tryz.type83, Tryz.underlying83⟩,
  ⟨⟨Tryz.type84, Tryz.underlying84⟩,
  ⟨⟨Tryz.type85, Tryz.underlying85⟩,
  ⟨⟨Tryz.type86, Tryz.underlying86⟩,
  ⟨⟨Tryz.type87, Tryz.underlying87⟩,
  ⟨⟨Tryz.type88, Tryz.underlying88⟩,
  ⟨⟨Tryz.type89, Tryz.underlying89⟩,
  ⟨⟨Tryz.type90, Tryz.underlying90⟩,
  ⟨⟨Tryz.type91, Tryz.underlying91⟩,
  ⟨⟨Tryz.type92, Tryz.underlying92⟩,
  ⟨⟨Tryz.type93, Tryz.underlying93⟩,
  ⟨⟨Tryz.type94, Tryz.underlying94⟩,
  ⟨⟨Tryz.type95, Tryz.underlying95⟩,
  ⟨⟨Tryz.type96, Tryz.underlying96⟩,
  ⟨⟨Tryz.type97, Tryz.underlying97⟩,
  ⟨⟨Tryz.type98, Tryz.underlying98⟩,
  ⟨⟨Tryz.type99, Tryz.underlying99⟩,
  ⟨⟨Tryz.type100, Tryz.underlying100⟩,
  ⟨⟨Tryz.type101, Tryz.underlying101⟩,
  ⟨⟨Tryz.type102, Tryz.underlying102⟩,
  ⟨⟨Tryz.type103, Tryz.underlying103⟩,
  ⟨⟨Tryz.type104, Tryz.underlying104⟩,
  ⟨⟨Tryz.type105, Tryz.underlying105⟩,
  ⟨⟨Tryz.type106, Tryz.underlying106⟩,
  ⟨⟨Tryz.type107, Tryz.underlying107⟩,
  ⟨⟨Tryz.type108, Tryz.underlying108⟩,
  ⟨⟨Tryz.type109, Tryz.underlying109⟩,
  ⟨⟨Tryz.type110, Tryz.underlying110⟩,
  ⟨⟨Tryz.type111, Tryz.underlying111⟩,
  ⟨⟨Tryz.type112, Tryz.underlying112⟩,
  ⟨⟨Tryz.type113, Tryz.underlying113⟩,
  ⟨⟨Tryz.type114, Tryz.underlying114⟩,
  ⟨⟨Tryz.type115, Tryz.underlying115⟩,
  ⟨⟨Tryz.type116, Tryz.underlying116⟩,
  ⟨⟨Tryz.type117, Tryz.underlying117⟩,
  ⟨⟨Tryz.type118, Tryz.underlying118⟩,
  ⟨⟨Tryz.type119, Tryz.underlying119⟩,
  ⟨⟨Tryz.type120, Tryz.underlying120⟩,
  ⟨⟨Tryz.type121, Tryz.underlying121⟩,
  ⟨⟨Tryz.type122, Tryz.underlying122⟩,
  ⟨⟨Tryz.type123, Tryz.underlying123⟩,
  ⟨⟨Tryz.type124, Tryz.underlying124⟩,
  ⟨⟨Tryz.type125, Tryz.underlying125⟩,
  ⟨⟨Tryz.type126, Tryz.underlying126⟩,
  ⟨⟨Tryz.type127, Tryz.underlying127⟩,
  ⟨⟨Tryz.type128, Tryz.underlying128⟩,
  ⟨⟨Tryz.type129, Tryz.underlying129⟩,
  ⟨⟨Tryz.type130, Tryz.underlying130⟩,
  ⟨⟨Tryz.type131, Tryz.underlying131⟩,
  ⟨⟨Tryz.type132, Tryz.underlying132⟩,
  ⟨⟨Tryz.type133, Tryz.underlying133⟩,
  ⟨⟨Tryz.type134, Tryz.underlying134⟩,
  ⟨⟨Tryz.type135, Tryz.underlying135⟩,
  ⟨⟨Tryz.type136, Tryz.underlying136⟩,
  ⟨⟨Tryz.type137, Tryz.underlying137⟩,
  ⟨⟨Tryz.type138, Tryz.underlying138⟩,
  ⟨⟨Tryz.type139, Tryz.underlying139⟩,
  ⟨⟨Tryz.type140, Tryz.underlying140⟩,
  ⟨⟨Tryz.type141, Tryz.underlying141⟩,
  ⟨⟨Tryz.type142, Tryz.underlying142⟩,
  ⟨⟨Tryz.type143, Tryz.underlying143⟩,
  ⟨⟨Tryz.type144, Tryz.underlying144⟩,
  ⟨⟨Tryz.type145, Tryz.underlying145⟩,
  ⟨⟨Tryz.type146, Tryz.underlying146⟩,
  ⟨⟨Tryz.type147, Tryz.underlying147⟩,
  ⟨⟨Tryz.type148, Tryz.underlying148⟩,
  ⟨⟨Tryz.type149, Tryz.underlying149⟩,
  ⟨⟨Tryz.type150, Tryz.underlying150⟩,
  ⟨⟨Tryz.type151, Tryz.underlying151⟩,
  ⟨⟨Tryz.type152, Tryz.underlying152⟩,
  ⟨⟨Tryz.type153, Tryz.underlying153⟩,
  ⟨⟨Tryz.type154, Tryz.underlying154⟩,
  ⟨⟨Tryz.type155, Tryz.underlying155⟩,
  ⟨⟨Tryz.type156, Tryz.underlying156⟩,
  ⟨⟨Tryz.type157, Tryz.underlying157⟩,
  ⟨⟨Tryz.type158, Tryz.underlying158⟩,
  ⟨⟨Tryz.type159, Tryz.underlying159⟩,
  ⟨⟨Tryz.type160, Tryz.underlying160⟩,
  ⟨⟨Tryz.type161, Tryz.underlying161⟩,
  ⟨⟨Tryz.type162, Tryz.underlying162⟩,
  ⟨⟨Tryz.type163, Tryz.underlying163⟩,
  ⟨⟨Tryz.type164, Tryz.underlying164⟩,
  ⟨⟨Tryz.type165, Tryz.underlying165⟩,
  ⟨⟨Tryz.type166, Tryz.underlying166⟩,
  ⟨⟨Tryz.type167, Tryz.underlying167⟩,
  ⟨⟨Tryz.type168, Tryz.underlying168⟩,
  ⟨⟨Tryz.type169, Tryz.underlying169⟩,
  ⟨⟨Tryz.type170, Tryz.underlying170⟩,
  ⟨⟨Tryz.type171, Tryz.underlying171⟩,
  ⟨⟨Tryz.type172, Tryz.underlying172⟩,
  ⟨⟨Tryz.type173, Tryz.underlying173⟩,
  ⟨⟨Tryz.type174, Tryz.underlying174⟩,
  ⟨⟨Tryz.type175, Tryz.underlying175⟩,
  ⟨⟨Tryz.type176, Tryz.underlying176⟩,
  ⟨⟨Tryz.type177, Tryz.underlying177⟩,
  ⟨⟨Tryz.type178, Tryz.underlying178⟩,
  ⟨⟨Tryz.type179, Tryz.underlying179⟩,
  ⟨⟨Tryz.type180, Tryz.underlying180⟩,
  ⟨⟨Tryz.type181, Tryz.underlying181⟩,
  ⟨⟨Tryz.type182, Tryz.underlying182⟩,
  ⟨⟨Tryz.type183, Tryz.underlying183⟩,
  ⟨⟨Tryz.type184, Tryz.underlying184⟩,
  ⟨⟨Tryz.type185, Tryz.underlying185⟩,
  ⟨⟨Tryz.type186, Tryz.underlying186⟩,
  ⟨⟨Tryz.type187, Tryz.underlying187⟩,
  ⟨⟨Tryz.type188, Tryz.underlying188⟩,
  ⟨⟨Tryz.type189, Tryz.underlying189⟩,
  ⟨⟨Tryz.type190, Tryz.underlying190⟩,
  ⟨⟨Tryz.type191, Tryz.underlying191⟩,
  ⟨⟨Tryz.type192, Tryz.underlying192⟩,
  ⟨⟨Tryz.type193, Tryz.underlying193⟩,
  ⟨⟨Tryz.type194, Tryz.underlying194⟩,
  ⟨⟨Tryz.type195, Tryz.underlying195⟩,
  ⟨⟨Tryz.type196, Tryz.underlying196⟩,
  ⟨⟨Tryz.type197, Tryz.underlying197⟩,
  ⟨⟨Tryz.type198, Tryz.underlying198⟩,
  ⟨⟨Tryz.type199, Tryz.underlying199⟩,
  ⟨⟨Tryz.type200, Tryz.underlying200⟩,
  ⟨⟨Tryz.type201, Tryz.underlying201⟩,
  ⟨⟨Tryz.type202, Tryz.underlying202⟩,
  ⟨⟨Tryz.type203, Tryz.underlying203⟩,
  ⟨⟨Tryz.type204, Tryz.underlying204⟩,
  ⟨⟨Tryz.type205, Tryz.underlying205⟩,
  ⟨⟨Tryz.type206, Tryz.underlying206⟩,
  ⟨⟨Tryz.type207, Tryz.underlying207⟩,
  ⟨⟨Tryz.type208, Tryz.underlying208⟩,
  ⟨⟨Tryz.type209, Tryz.underlying209⟩,
  ⟨⟨Tryz.type210, Tryz.underlying210⟩,
  ⟨⟨Tryz.type211, Tryz.underlying211⟩,
  ⟨⟨Tryz.type212, Tryz.underlying212⟩,
  ⟨⟨Tryz.type213, Tryz.underlying213⟩,
  ⟨⟨Tryz.type214, Tryz.underlying214⟩,
  ⟨⟨Tryz.type215, Tryz.underlying215⟩,
  ⟨⟨Tryz.type216, Tryz.underlying216⟩,
  ⟨⟨Tryz.type217, Tryz.underlying217⟩,
  ⟨⟨Tryz.type218, Tryz.underlying218⟩,
  ⟨⟨Tryz.type219, Tryz.underlying219⟩,
  ⟨⟨Tryz.type220, Tryz.underlying220⟩,
  ⟨⟨Tryz.type221, Tryz.underlying221⟩,
  ⟨⟨Tryz.type222, Tryz.underlying222⟩,
  ⟨⟨Tryz.type223, Tryz.underlying223⟩,
  ⟨⟨Tryz.type224, Tryz.underlying224⟩,
  ⟨⟨Tryz.type225, Tryz.underlying225⟩,
  ⟨⟨Tryz.type226, Tryz.underlying226⟩,
  ⟨⟨Tryz.type227, Tryz.underlying227⟩,
  ⟨⟨Tryz.type228, Tryz.underlying228⟩,
  ⟨⟨Tryz.type229, Tryz.underlying229⟩,
  ⟨⟨Tryz.type230, Tryz.underlying230⟩,
  ⟨⟨Tryz.type231, Tryz.underlying231⟩,
  ⟨⟨Tryz.type232, Tryz.underlying232⟩,
  ⟨⟨Tryz.type233, Tryz.underlying233⟩,
  ⟨⟨Tryz.type234, Tryz.underlying234⟩,
  ⟨⟨Tryz.type235, Tryz.underlying235⟩,
  ⟨⟨Tryz.type236, Tryz.underlying236⟩,
  ⟨⟨Tryz.type237, Tryz.underlying237⟩,
  ⟨⟨Tryz.type238, Tryz.underlying238⟩,
  ⟨⟨Tryz.type239, Tryz.underlying239⟩,
  ⟨⟨Tryz.type240, Tryz.underlying240⟩,
  ⟨⟨Tryz.type241, Tryz.underlying241⟩,
  ⟨⟨Tryz.type242, Tryz.underlying242⟩,
  ⟨⟨Tryz.type243, Tryz.underlying243⟩,
  ⟨⟨Tryz.type244, Tryz.underlying244⟩,
  ⟨⟨Tryz.type245, Tryz.underlying245⟩,
  ⟨⟨Tryz.type246, Tryz.underlying246⟩,
  ⟨⟨Tryz.type247, Tryz.underlying247⟩,
  ⟨⟨Tryz.type248, Tryz.underlying248⟩,
  ⟨⟨Tryz.type249, Tryz.underlying249⟩,
  ⟨⟨Tryz.type250, Tryz.underlying250⟩,
  ⟨⟨Tryz.type251, Tryz.underlying251⟩,
  ⟨⟨Tryz.type252, Tryz.underlying252⟩,
  ⟨⟨Tryz.type253, Tryz.underlying253⟩,
  ⟨⟨Tryz.type254, Tryz.underlying254⟩,
  ⟨⟨Tryz.type255, Tryz.underlying255⟩,
  ⟨⟨Tryz.type256, Tryz.underlying256⟩,
  ⟨⟨Tryz.type257, Tryz.underlying257⟩,
  ⟨⟨Tryz.type258, Tryz.underlying258⟩,
  ⟨⟨Tryz.type259, Tryz.underlying259⟩,
  ⟨⟨Tryz.type260, Tryz.underlying260⟩,
  ⟨⟨Tryz.type261, Tryz.underlying261⟩,
  ⟨⟨Tryz.type262, Tryz.underlying262⟩,
  ⟨⟨Tryz.type263, Tryz.underlying263⟩,
  ⟨⟨Tryz.type264, Tryz.underlying264⟩,
  ⟨⟨Tryz.type265, Tryz.underlying265⟩,
  ⟨⟨Tryz.type266, Tryz.underlying266⟩,
  ⟨⟨Tryz.type267, Tryz.underlying267⟩,
  ⟨⟨Tryz.type268, Tryz.underlying268⟩,
  ⟨⟨Tryz.type269, Tryz.underlying269⟩,
  ⟨⟨Tryz.type270, Tryz.underlying270⟩,
  ⟨⟨Tryz.type271, Tryz.underlying271⟩,
  ⟨⟨Tryz.type272, Tryz.underlying272⟩,
  ⟨⟨Tryz.type273, Tryz.underlying273⟩,
  ⟨⟨Tryz.type274, Tryz.underlying274⟩,
  ⟨⟨Tryz.type275, Tryz.underlying275⟩,
  ⟨⟨Tryz.type276, Tryz.underlying276⟩,
  ⟨⟨Tryz.type277, Tryz.underlying277⟩,
  ⟨⟨Tryz.type278, Tryz.underlying278⟩,
  ⟨⟨Tryz.type279, Tryz.underlying279⟩,
  ⟨⟨Tryz.type280, Tryz.underlying280⟩,
  ⟨⟨Tryz.type281, Tryz.underlying281⟩,
  ⟨⟨Tryz.type282, Tryz.underlying282⟩,
  ⟨⟨Tryz.type283, Tryz.underlying283⟩,
  ⟨⟨Tryz.type284, Tryz.underlying284⟩,
  ⟨⟨Tryz.type285, Tryz.underlying285⟩,
  ⟨⟨Tryz.type286, Tryz.underlying286⟩,
  ⟨⟨Tryz.type287, Tryz.underlying287⟩,
  ⟨⟨Tryz.type288, Tryz.underlying288⟩,
  ⟨⟨Tryz.type289, Tryz.underlying289⟩,
  ⟨⟨Tryz.type290, Tryz.underlying290⟩,
  ⟨⟨Tryz.type291, Tryz.underlying291⟩,
  ⟨⟨Tryz.type292, Tryz.underlying292⟩,
  ⟨⟨Tryz.type293, Tryz.underlying293⟩,
  ⟨⟨Tryz.type294, Tryz.underlying294⟩,
  ⟨⟨Tryz.type295, Tryz.underlying295⟩,
  ⟨⟨Tryz.type296, Tryz.underlying296⟩,
  ⟨⟨Tryz.type297, Tryz.underlying297⟩,
  ⟨⟨Tryz.type298, Tryz.underlying298⟩,
  ⟨⟨Tryz.type299, Tryz.underlying299⟩,
  ⟨⟨Tryz.type300, Tryz.underlying300⟩,
  ⟨⟨Tryz.type301, Tryz.underlying301⟩,
  ⟨⟨Tryz.type302, Tryz.underlying302⟩,
  ⟨⟨Tryz.type303, Tryz.underlying303⟩,
  ⟨⟨Tryz.type304, Tryz.underlying304⟩,
  ⟨⟨Tryz.type305, Tryz.underlying305⟩,
  ⟨⟨Tryz.type306, Tryz.underlying306⟩,
  ⟨⟨Tryz.type307, Tryz.underlying307⟩,
  ⟨⟨Tryz.type308, Tryz.underlying308⟩,
  ⟨⟨Tryz.type309, Tryz.underlying309⟩,
  ⟨⟨Tryz.type310, Tryz.underlying310⟩,
  ⟨⟨Tryz.type311, Tryz.underlying311⟩, trivial⟩⟩⟩⟩⟩⟩⟩⟩⟩⟩⟩⟩⟩⟩⟩⟩⟩⟩⟩⟩⟩⟩⟩⟩⟩⟩⟩⟩⟩⟩⟩⟩⟩⟩⟩⟩⟩⟩⟩⟩⟩⟩⟩⟩⟩⟩⟩⟩⟩⟩⟩⟩⟩⟩⟩⟩⟩⟩⟩⟩⟩⟩⟩⟩⟩⟩⟩⟩⟩⟩⟩⟩⟩⟩⟩⟩⟩⟩⟩⟩⟩⟩⟩⟩⟩⟩⟩⟩⟩⟩⟩⟩⟩⟩⟩⟩⟩⟩⟩⟩⟩⟩⟩⟩⟩⟩⟩⟩⟩⟩⟩⟩⟩⟩⟩⟩⟩⟩⟩⟩⟩⟩⟩⟩⟩⟩⟩⟩⟩⟩⟩⟩⟩⟩⟩⟩⟩⟩⟩⟩⟩⟩⟩⟩⟩⟩⟩⟩⟩⟩⟩⟩⟩⟩⟩⟩⟩⟩⟩⟩⟩⟩⟩⟩⟩⟩⟩⟩⟩⟩⟩⟩⟩⟩⟩⟩⟩⟩⟩⟩⟩⟩⟩⟩⟩⟩⟩⟩⟩⟩⟩⟩⟩⟩⟩⟩⟩⟩⟩⟩⟩⟩⟩⟩⟩⟩⟩⟩⟩⟩⟩⟩⟩⟩⟩⟩⟩⟩⟩⟩⟩⟩⟩⟩⟩⟩⟩⟩⟩⟩⟩⟩⟩⟩⟩⟩⟩⟩⟩⟩⟩⟩⟩⟩⟩⟩⟩⟩⟩⟩⟩⟩⟩⟩⟩⟩⟩⟩⟩⟩⟩⟩⟩⟩⟩⟩⟩⟩⟩⟩⟩⟩⟩⟩⟩⟩⟩⟩⟩⟩⟩⟩⟩⟩⟩⟩⟩⟩⟩⟩⟩⟩⟩⟩⟩⟩⟩⟩⟩⟩⟩⟩⟩⟩⟩⟩⟩⟩⟩⟩⟩⟩)
theorem mixed : Tryz.prog.follows .mixedOrders = true := by kernel_rfl
end Go.Proofs.YtijiggkhnpmaiaaGreat.Sx


/-
  min, max of two numbers; a loop of a few rounds, unrolled.
-/
set_option linter.unusedVariables false
set_option linter.unusedSimpArgs false
namespace Go.Proofs.YtijiggkhnpmaiaaGreat
open Go Go.RowKit Sx

theorem N.min2 {ts : Array TypeId} {t : TypeId} {k : IntKind} {x y : Int} {K : Value → Prop} (h : K (.int k (min x y))) : N (BuiltN Tryz.prog .min ts t [.int k x, .int k y] K) := by
  refine N.mk ⟨.int k (min x y), ⟨rfl, rfl, fun cs w => ?_⟩, h⟩
  have e : (if y < x then y else x) = min x y := by split <;> omega
  show (do pure (Next.value (← Builtin.min_ ts t #[.int k x, .int k y])) : Sem _).run Tryz.prog w = _
  rw [Sem.run_bind, run_min_int2, e]; rfl
theorem N.max2 {ts : Array TypeId} {t : TypeId} {k : IntKind} {x y : Int} {K : Value → Prop} (h : K (.int k (max x y))) : N (BuiltN Tryz.prog .max ts t [.int k x, .int k y] K) := by
  refine N.mk ⟨.int k (max x y), ⟨rfl, rfl, fun cs w => ?_⟩, h⟩
  have e : (if y > x then y else x) = max x y := by split <;> omega
  show (do pure (Next.value (← Builtin.max_ ts t #[.int k x, .int k y])) : Sem _).run Tryz.prog w = _
  rw [Sem.run_bind, run_max_int2, e]; rfl
/-- A loop of a few rounds, unrolled. -/
noncomputable def Roll (A : CodeT) (Q : Exit → St → Prop) (k : Nat) : St → Prop := Nat.rec (motive := fun _ => St → Prop) (fun _ => False) (fun _ W st => A (thenQ W Q) st) k
theorem N.roll {P : Program} {G : Tys} {n0 : Nat} {c : Code} {A : (Exit → St → Prop) → St → Prop} {Q : Exit → St → Prop} {st : St} (k : Nat) (h : Roll A Q k st) : N (LoopN P G n0 c A Q st) :=
  N.mk ⟨(k : Nat) × {s : St // Roll A Q k s}, fun x => x.2.1, fun _ => True, fun x => x.1, fun x s => ∃ j, x.1 = j + 1 ∧ Roll A Q j s, fun x s hx => by
    obtain ⟨j, hj, hr⟩ := hx
    refine ⟨⟨j, s, hr⟩, trivial, ?_, by show j < x.1; omega⟩
    exact (Wk.refl _ _).g, ⟨⟨k, st, h⟩, trivial, (Wk.refl _ _).g⟩, fun x _ => by
    obtain ⟨k, s, hs⟩ := x
    cases k with
    | zero => exact hs.elim
    | succ j =>
      have : (fun s' => ∃ i, j + 1 = i + 1 ∧ Roll A Q i s') = Roll A Q j := by
        funext s'
        refine propext ⟨fun ⟨i, hi, hr⟩ => ?_, fun hr => ⟨j, rfl, hr⟩⟩
        have : j = i := by simpa using hi
        subst this; exact hr
      show A (thenQ (fun s' => ∃ i, j + 1 = i + 1 ∧ Roll A Q i s') Q) s
      rw [this]; exact hs⟩
theorem Tryz.own : ownKnob Tryz.prog.godebug = none := by kernel_rfl
theorem Tryz.laidOut : laidOutB Tryz.prog = true := by kernel_rfl
theorem u64mod (x : Int) (m : Int) (h0 : 0 < m) (h1 : m ≤ 9223372036854775807) : 0 ≤ IntKind.i64.wrap ((IntKind.u64.wrap x).tmod m) ∧ IntKind.i64.wrap ((IntKind.u64.wrap x).tmod m) < m := by
  have e : 0 ≤ IntKind.u64.wrap x := by rw [IntKind.wrap_u64]; omega
  rw [Int.tmod_eq_emod_of_nonneg e]
  have a := Int.emod_nonneg (IntKind.u64.wrap x) (by omega : m ≠ 0)
  have b := Int.emod_lt_of_pos (IntKind.u64.wrap x) h0
  rw [IntKind.wrap_i64, show (IntKind.u64.wrap x % m + 9223372036854775808) % 18446744073709551616 - 9223372036854775808 = IntKind.u64.wrap x % m from by omega]
  exact ⟨a, b⟩
theorem tmodR (x m : Int) (hm : 0 < m) : -m < x.tmod m ∧ x.tmod m < m := by
  rcases Int.le_total 0 x with h | h
  · rw [Int.tmod_eq_emod_of_nonneg h]
    have a := Int.emod_nonneg x (by omega : m ≠ 0)
    have b := Int.emod_lt_of_pos x hm
    omega
  · have : x.tmod m = -((-x).tmod m) := by rw [Int.neg_tmod]; omega
    rw [this, Int.tmod_eq_emod_of_nonneg (by omega)]
    have a := Int.emod_nonneg (-x) (by omega : m ≠ 0)
    have b := Int.emod_lt_of_pos (-x) hm
    omega
end Go.Proofs.YtijiggkhnpmaiaaGreat


/-
  Stretches that bear blocks of their own: how they are opened and closed; contracts of callees that take or make such.
-/
set_option linter.unusedVariables false
set_option linter.unusedSimpArgs false
namespace Go.Proofs.YtijiggkhnpmaiaaGreat.Sx
open Go Go.RowKit

/-! ### Another description of the same blocks -/
structure NewC (X : Ctx) (ρ' : Nat → Nat × Nat) (h' : List (Option Chunk)) (w : World) (F : Nat → Prop) (T : Nat → Nat → Prop) (k : Nat) (d : Chunk) : Prop where
  blk : F (ρ' k).1
  cell : ∀ j, j < d.n → ∃ x, w.cell? ⟨(ρ' k).1, (ρ' k).2 + j, none⟩ = some x ∧ Den1 (Fil h') ρ' (d.f j) x
  own : d.own = true → ∀ j, j < d.n → w.frozen? ⟨(ρ' k).1, (ρ' k).2 + j, none⟩ = false
  inv : d.x.inv (ρ' k) (T k) w
  foot : ∀ b, T k b → F b ∧ (d.n = 0 ∨ b ≠ (ρ' k).1)

/-- The stretches J, told anew as the stretches A. -/
theorem HOK.redo {X : Ctx} {ρ ρ' : Nat → Nat × Nat} {h h' : List (Option Chunk)} {w : World} {S T : Nat → Nat → Prop} (H : HOK X ρ h w) (E : ExtOK X ρ h w S) (J A F : Nat → Prop)
    (hF : ∀ b, F b → ∃ (j : Nat) (c : Chunk), J j ∧ h[j]? = some (some c) ∧ ((c.own = true ∧ b = (ρ j).1) ∨ S j b)) (hmay : ∀ b, F b → May X b)
    (hbase : ∀ i, i < X.n0 → Fil h' i ∧ ρ' i = ρ i)
    (hold : ∀ (k : Nat) (d : Chunk), h'[k]? = some (some d) → ¬ A k → ¬ J k ∧ ρ' k = ρ k ∧ h[k]? = some (some d) ∧ ∀ j, j < d.n → ∀ x, Den1 (Fil h) ρ (d.f j) x → Den1 (Fil h') ρ' (d.f j) x)
    (hnew : ∀ (k : Nat) (d : Chunk), h'[k]? = some (some d) → A k → NewC X ρ' h' w F T k d)
    (hsep : ∀ (k : Nat) (d : Chunk) (l : Nat) (e : Chunk), h'[k]? = some (some d) → A k → h'[l]? = some (some e) → A l → k ≠ l → (d.own = true → (ρ' k).1 ≠ (ρ' l).1) ∧ ∀ b, T k b → (ρ' l).1 ≠ b ∧ ¬ T l b) : HOK X ρ' h' w := by
  have outF : ∀ (k : Nat) (e : Chunk), h[k]? = some (some e) → ¬ J k → ¬ F (ρ k).1 := fun k e hk hJ hb => by
    obtain ⟨j, c, hj, hc, hb⟩ := hF _ hb
    have hne : j ≠ k := fun e => hJ (e ▸ hj)
    rcases hb with ⟨ho, hb⟩ | hb
    · exact H.sep _ _ _ _ hc ho hk hne hb.symm
    · exact (E.apart _ _ _ _ _ hc hb hk hne.symm).1 rfl
  have outS : ∀ (k : Nat) (e : Chunk) (b : Nat), h[k]? = some (some e) → ¬ J k → S k b → ¬ F b := fun k e b hk hJ hS hb => by
    obtain ⟨j, c, hj, hc, hb⟩ := hF _ hb
    have hne : j ≠ k := fun e => hJ (e ▸ hj)
    obtain ⟨a1, a2⟩ := E.apart _ _ b _ _ hk hS hc hne
    rcases hb with ⟨ho, hb⟩ | hb
    · exact a1 hb.symm
    · exact a2 hb
  have inF : ∀ b, F b → b < w.heap.size := fun b hb => by
    obtain ⟨j, c, hj, hc, hb⟩ := hF _ hb
    rcases hb with ⟨ho, rfl⟩ | hb
    · exact H.lt _ _ hc
    · exact (E.mine _ _ _ hc hb).2.1
  refine ⟨H.evo, fun i hi => ⟨(hbase i hi).1, (hbase i hi).2.trans (H.base i hi).2⟩, fun k d hk => ?_, fun k d hk j hj => ?_, fun k d hk ho j hj => ?_, fun k d l e hk ho hl hne => ?_, ?_⟩
  · by_cases hA : A k
    · exact inF _ (hnew k d hk hA).blk
    · obtain ⟨_, hρ, hk', _⟩ := hold k d hk hA
      rw [hρ]; exact H.lt _ _ hk'
  · by_cases hA : A k
    · exact (hnew k d hk hA).cell j hj
    · obtain ⟨_, hρ, hk', hd⟩ := hold k d hk hA
      rw [hρ]
      obtain ⟨x, hx, hx2⟩ := H.cell _ _ hk' j hj
      exact ⟨x, hx, hd j hj x hx2⟩
  · by_cases hA : A k
    · refine ⟨(hnew k d hk hA).own ho j hj, ?_⟩
      rcases hmay _ (hnew k d hk hA).blk with h1 | h1
      · exact .inl h1
      · exact .inr (h1.2 _)
    · obtain ⟨_, hρ, hk', _⟩ := hold k d hk hA
      rw [hρ]; exact H.own _ _ hk' ho j hj
  · by_cases hA : A k <;> by_cases hB : A l
    · exact (hsep k d l e hk hA hl hB hne).1 ho
    · obtain ⟨hJ, hρ, hl', _⟩ := hold l e hl hB
      rw [hρ]
      exact fun e' => outF l e hl' hJ (e' ▸ (hnew k d hk hA).blk)
    · obtain ⟨hJ, hρ, hk', _⟩ := hold k d hk hA
      rw [hρ]
      exact fun e' => outF k d hk' hJ (e' ▸ (hnew l e hl hB).blk)
    · obtain ⟨hJ, hρ, hk', _⟩ := hold k d hk hA
      obtain ⟨hJ2, hρ2, hl', _⟩ := hold l e hl hB
      rw [hρ, hρ2]
      exact H.sep _ _ _ _ hk' ho hl' hne
  · refine ⟨fun k b => (A k ∧ T k b) ∨ (¬ A k ∧ S k b), fun k d hk => ?_, fun k d b hk hS => ?_, fun k d b l e hk hS hl hne => ?_⟩
    · by_cases hA : A k
      · have : (fun b => (A k ∧ T k b) ∨ (¬ A k ∧ S k b)) = T k := by
          funext b; exact propext ⟨fun h => by rcases h with h | h; exact h.2; exact absurd hA h.1, fun h => .inl ⟨hA, h⟩⟩
        rw [this]; exact (hnew k d hk hA).inv
      · have : (fun b => (A k ∧ T k b) ∨ (¬ A k ∧ S k b)) = S k := by
          funext b; exact propext ⟨fun h => by rcases h with h | h; exact absurd h.1 hA; exact h.2, fun h => .inr ⟨hA, h⟩⟩
        rw [this]
        obtain ⟨_, hρ, hk', _⟩ := hold k d hk hA
        rw [hρ]; exact E.inv k d hk'
    · rcases hS with ⟨hA, hT⟩ | ⟨hA, hS⟩
      · obtain ⟨h1, h2⟩ := (hnew k d hk hA).foot b hT
        exact ⟨h2, inF b h1, hmay b h1⟩
      · obtain ⟨_, hρ, hk', _⟩ := hold k d hk hA
        rw [hρ]; exact E.mine k d b hk' hS
    · rcases hS with ⟨hA, hT⟩ | ⟨hA, hS⟩
      · by_cases hB : A l
        · obtain ⟨a1, a2⟩ := (hsep k d l e hk hA hl hB (Ne.symm hne)).2 b hT
          exact ⟨a1, fun h => by rcases h with h | h; exact a2 h.2; exact h.1 hB⟩
        · obtain ⟨hJ, hρ, hl', _⟩ := hold l e hl hB
          have hFb := ((hnew k d hk hA).foot b hT).1
          refine ⟨by rw [hρ]; exact fun e' => outF l e hl' hJ (e' ▸ hFb), fun h => ?_⟩
          rcases h with h | h
          · exact hB h.1
          · exact outS l e b hl' hJ h.2 hFb
      · obtain ⟨hJ, hρ, hk', _⟩ := hold k d hk hA
        by_cases hB : A l
        · refine ⟨fun e' => outS k d b hk' hJ hS (e' ▸ (hnew l e hl hB).blk), fun h => ?_⟩
          rcases h with h | h
          · exact outS k d b hk' hJ hS ((hnew l e hl hB).foot b h.2).1
          · exact h.1 hB
        · obtain ⟨_, hρ2, hl', _⟩ := hold l e hl hB
          obtain ⟨a1, a2⟩ := E.apart k d b l e hk' hS hl' hne
          refine ⟨by rw [hρ2]; exact a1, fun h => ?_⟩
          rcases h with h | h
          · exact hB h.1
          · exact a2 h.2

/-! ### What a callee may count on -/
structure Tidy (X : Ctx) (ss : List Piece) : Prop where
  n0 : X.n0 = ss.length
  m : ∀ b j, X.M ⟨b, j, none⟩ → (∃ k, k < X.n0 ∧ b = (X.ρ0 k).1) ∨ May X b
  x : ∀ (k : Nat) (s : Piece), ss[k]? = some s → s.e.x ≠ Ext.none → Selfish s.e.x → May X (X.ρ0 k).1
theorem Tidy.may {X : Ctx} {ss : List Piece} {ρ : Nat → Nat × Nat} {h : List (Option Chunk)} {w : World} (T : Tidy X ss) (H : HOK X ρ h w) {j : Nat} {c : Chunk} (hj : h[j]? = some (some c)) (ho : c.own = true) (hn : 0 < c.n) (hl : ss.length ≤ j) : May X (ρ j).1 := by
  rcases (H.own j c hj ho 0 hn).2 with h1 | h1
  · exact .inl h1
  · rcases T.m _ _ h1 with ⟨k, hk, hb⟩ | h2
    · obtain ⟨⟨d, hd⟩, hρ⟩ := H.base k hk
      have := H.sep j c k d hj ho hd (by have := T.n0; omega)
      rw [hρ] at this
      exact absurd hb this
    · exact h2
theorem Tidy.mayX {X : Ctx} {ss : List Piece} {ρ : Nat → Nat × Nat} {h : List (Option Chunk)} {w : World} (T : Tidy X ss) (H : HOK X ρ h w) {k : Nat} {s : Piece} (hk : ss[k]? = some s) (hx : s.e.x ≠ Ext.none) (hs : Selfish s.e.x) : May X (ρ k).1 := by
  have hl := (List.getElem?_eq_some_iff.1 hk).1
  rw [(H.base k (by rw [T.n0]; exact hl)).2]
  exact T.x k s hk hx hs

/-- The end of a callee, told anew. -/
def EndN (ss : List Piece) (h : List (Option Chunk)) (v : Value) (K : Value → List (Option Chunk) → Prop) : Prop :=
  ∀ X ρ w x, Tidy X ss → HOK X ρ h w → Den (Fil h) ρ v x → ∃ v' h' ρ', HOK X ρ' h' w ∧ Den (Fil h') ρ' v' x ∧ K v' h'
theorem N.endSame {ss : List Piece} {h : List (Option Chunk)} {v : Value} {K : Value → List (Option Chunk) → Prop} (k : K v h) : N (EndN ss h v K) := N.mk fun X ρ w x _ H hd => ⟨v, h, ρ, H, hd, k⟩
/-- What a callee begins with, told anew. -/
def Opens (ss : List Piece) {B : Type} (okB : B → Prop) (h1 : B → List (Option Chunk)) : Prop :=
  ∀ X ρ w, Tidy X ss → HOK X ρ (partH ss) w → ∃ β, okB β ∧ ∃ ρ', AgreeOn (Fil (partH ss)) ρ ρ' ∧ (∀ i, Fil (partH ss) i → Fil (h1 β) i) ∧ HOK X ρ' (h1 β) w
theorem Opens.same {ss : List Piece} : Opens ss (fun _ : Unit => True) (fun _ => partH ss) := fun X ρ w _ H => ⟨(), trivial, ρ, AgreeOn.refl _ _, fun _ h => h, H⟩
def PartsX : List Piece → Prop
  | [] => True
  | s :: r => (s.e.x = Ext.none ∨ (s.e.own = true ∧ s.e.x = s.c.x)) ∧ PartsX r
theorem PartsX.at : ∀ {ss : List Piece}, PartsX ss → ∀ s ∈ ss, PieceX s
  | t :: r, hp, s, hs => by
    rcases List.mem_cons.1 hs with rfl | hs
    · exact hp.1
    · exact PartsX.at hp.2 s hs
def PostX (h : List (Option Chunk)) : List Piece → Nat → Prop
  | [], _ => True
  | s :: r, k => (s.d.x = Ext.none ∨ ∃ c, h[k]? = some (some c) ∧ s.d.x = c.x) ∧ PostX h r (k + 1)
theorem PostX.at {h : List (Option Chunk)} : ∀ {ss : List Piece} {k0 : Nat}, PostX h ss k0 → ∀ (l : Nat) (s : Piece), ss[l]? = some s → s.d.x = Ext.none ∨ ∃ c, h[k0 + l]? = some (some c) ∧ s.d.x = c.x
  | a :: r, k0, hp, 0, s, hl => by simp at hl; subst hl; exact hp.1
  | a :: r, k0, hp, l + 1, s, hl => by
    rw [show k0 + (l + 1) = k0 + 1 + l from by omega]
    exact PostX.at hp.2 l s (by simpa using hl)
def MadeX (h : List (Option Chunk)) : List Fresh → Prop
  | [] => True
  | n :: r => (h[n.i]? = some none ∧ n.d.own = true ∧ (0 < n.d.n ∨ Selfish n.d.x) ∧ ∀ m ∈ r, n.i ≠ m.i ∧ n.k ≠ m.k) ∧ MadeX h r
theorem MadeX.at {h : List (Option Chunk)} : ∀ {ns : List Fresh}, MadeX h ns → ∀ n ∈ ns, h[n.i]? = some none ∧ n.d.own = true ∧ (0 < n.d.n ∨ Selfish n.d.x)
  | t :: r, hp, s, hs => by
    rcases List.mem_cons.1 hs with rfl | hs
    · exact ⟨hp.1.1, hp.1.2.1, hp.1.2.2.1⟩
    · exact MadeX.at hp.2 s hs
theorem MadeX.ne {h : List (Option Chunk)} : ∀ {ns : List Fresh}, MadeX h ns → ∀ n ∈ ns, ∀ m ∈ ns, (n.i = m.i ∨ n.k = m.k) → n = m
  | t :: r, hp, n, hn, m, hm, he => by
    rcases List.mem_cons.1 hn with h1 | h1 <;> rcases List.mem_cons.1 hm with h2 | h2
    · rw [h1, h2]
    · have := hp.1.2.2.2 m h2; rw [h1] at he; omega
    · have := hp.1.2.2.2 n h1; rw [h2] at he; omega
    · exact MadeX.ne hp.2 n h1 m h2 he
def MadeP (h : List (Option Chunk)) : List Fresh → Prop
  | [] => True
  | n :: r => (n.d.x = Ext.none ∨ ∃ c, h[n.k]? = some (some c) ∧ n.d.x = c.x) ∧ MadeP h r
theorem MadeP.at {h : List (Option Chunk)} : ∀ {ns : List Fresh}, MadeP h ns → ∀ n ∈ ns, n.d.x = Ext.none ∨ ∃ c, h[n.k]? = some (some c) ∧ n.d.x = c.x
  | t :: r, hp, s, hs => by
    rcases List.mem_cons.1 hs with rfl | hs
    · exact hp.1
    · exact MadeP.at hp.2 s hs

theorem all2_up {F F' : Nat → Prop} {ρ ρ' : Nat → Nat × Nat} (ha : AgreeOn F ρ ρ') (hF : ∀ i, F i → F' i) : ∀ {vs xs : List Value}, All2 (Den F ρ) vs xs → All2 (Den F' ρ') vs xs
  | [], [], _ => trivial
  | [], _ :: _, h => h.elim
  | _ :: _, [], h => h.elim
  | _ :: _, _ :: _, h => ⟨h.1.more ha hF, all2_up ha hF h.2⟩
section
variable {P : Program} {G : Tys}
theorem sub_tidy {ss : List Piece} {ρ : Nat → Nat × Nat} {w : World} {S : Nat → Nat → Prop} {h : List (Option Chunk)} {X : Ctx} (hI : ∀ s ∈ ss, h[s.i]? = some (some s.c)) (hex : PartsX ss) (E : ExtOK X ρ h w S) : Tidy ⟨w, subM ρ S ss, ss.length, fun k => ρ (subσ ss k)⟩ ss := by
  have hσ : ∀ k s, ss[k]? = some s → subσ ss k = s.i := fun k s hk => by show (match ss[k]? with | some s => s.i | none => 0) = s.i; rw [hk]
  refine ⟨rfl, fun b j hm => ?_, fun k s hk hx hs => ?_⟩
  · rcases hm with ⟨_, s, hs, _, hb, _⟩ | ⟨s, hs, ho, hb⟩
    · obtain ⟨l, hl, hlt⟩ := List.getElem_of_mem hs
      have hl' : ss[l]? = some s := by rw [List.getElem?_eq_getElem hl, hlt]
      exact .inl ⟨l, hl, by show b = (ρ (subσ ss l)).1; rw [hσ l s hl']; exact hb⟩
    · exact .inr (.inr ⟨.inr ⟨s, hs, ho, hb⟩, fun j => .inr ⟨s, hs, ho, hb⟩⟩)
  · have hmem := List.mem_of_getElem? hk
    rcases hex.at s hmem with e | ⟨ho, e⟩
    · exact absurd e hx
    · have hb : S s.i (ρ s.i).1 := by
        rw [e] at hs
        exact hs _ _ _ (E.inv _ _ (hI s hmem))
      show May _ (ρ (subσ ss k)).1
      rw [hσ k s hk]
      exact .inr ⟨.inr ⟨s, hmem, ho, hb⟩, fun j => .inr ⟨s, hmem, ho, hb⟩⟩
/-- A callee's contract, one outcome. -/
theorem call_res {g : FuncId} {fn : Func} {cd : Code} {h : List (Option Chunk)} {vs : List Value} {V : Value} {B : Type} (okB : B → Prop) (h1 : B → List (Option Chunk)) (ss : List Piece) (ns : List Fresh) (vs' : List Value)
    (hG : TysOK P G) (hm : P.follows .mixedOrders = true) (hf : P.funcs[g]? = some fn) (hb : fn.body = some cd) (hr : ∀ xs w, (callFunc g xs).run P w = .ok (.enter g xs) w)
    (hin : PartsIn h ss) (hre : PartsRe (partX ss 0) ss) (hap : Apart ss) (hex : PartsX ss) (hmi : MadeX h ns) (hvs : All2 (Re2 (partX ss 0)) vs vs') (hop : Opens ss okB h1)
    (hwp : ∀ β, okB β → initK vs' fn.ntmps fun t => wpC P G ss.length cd (bodyQ P G fn fun v st => N (EndN ss st.h v fun v' h' => N (Obl (Re (partX ss 0 ++ madeX ns) V v') (N (Obl (PostS (partX ss 0 ++ madeX ns) h' ss 0) (N (Obl (PostN (partX ss 0 ++ madeX ns) h' ss.length ns) (N (Obl (PostX h' ss 0 ∧ MadeP h' ns) (N True)))))))))) ⟨t, h1 β⟩) :
    CallOK P g vs h V (partM ss ++ madeM ns) (partR ss) := fun h₂ hrd hms X ρ w xs H hx => by
  have hI : ∀ s ∈ ss, h₂[s.i]? = some (some s.c) := fun s hs => by
    cases e : s.e.own with
    | true => exact (hms (s.i, s.d) (List.mem_append_left _ (partM_mem.2 ⟨s, hs, e, rfl⟩))).trans (hin.at s hs)
    | false => exact (hrd s.i (partR_mem ⟨s, hs, e, rfl⟩)).trans (hin.at s hs)
  have hNw : ∀ n ∈ ns, h₂[n.i]? = some none := fun n hn => (hms (n.i, n.d) (List.mem_append_right _ (madeM_mem.2 ⟨n, hn, rfl⟩))).trans (hmi.at n hn).1
  obtain ⟨S, E⟩ := H.ext
  have T := sub_tidy hI hex E
  obtain ⟨H0, hargs⟩ := sub_start ss vs' hI hre hap hex.at hvs H E hx
  obtain ⟨β, hβ, ρ', hag, hfil, H1⟩ := hop _ _ w T H0
  have hargs' : All2 (Den (Fil (h1 β)) ρ') vs' xs := all2_up hag hfil hargs
  refine .inr ⟨hr _ w, ?_⟩
  refine (calls_sx (X := ⟨w, subM ρ S ss, ss.length, fun k => ρ (subσ ss k)⟩) (args := ⟨xs⟩) hG hm hf hb H1 hargs' (hwp β hβ)).mono ?_
  rintro e w' ⟨ρ1, v, st, x, rfl, H2, hdx, hq⟩
  obtain ⟨v', h', ρ2, H3, hd3, hq⟩ := N.out hq _ _ _ _ T H2 hdx
  have q1 : Re (partX ss 0 ++ madeX ns) V v' ∧ N _ := N.out hq
  have q2 : PostS (partX ss 0 ++ madeX ns) h' ss 0 ∧ N _ := N.out q1.2
  have q3 : PostN (partX ss 0 ++ madeX ns) h' ss.length ns ∧ N _ := N.out q2.2
  have q4 : (PostX h' ss 0 ∧ MadeP h' ns) ∧ N True := N.out q3.2
  exact ⟨x, rfl, sub_glue ss ns hI hNw hre hap (fun n hn => (hmi.at n hn).2) (fun n hn m hm => hmi.ne n hn m hm) H E H3 hd3 q1.1 q2.1 q3.1 (fun l s hl _ => by have := q4.1.1.at l s hl; rwa [Nat.zero_add] at this) q4.1.2.at⟩
/-- A callee's contract, many outcomes. -/
theorem call_resall {α : Type} {g : FuncId} {fn : Func} {cd : Code} {h : List (Option Chunk)} {vs : List Value} {B : Type} (okB : B → Prop) (h1 : B → List (Option Chunk)) (ok : α → Prop) (V : α → Value) (ss : List Piece) (dd : α → List Chunk) (ns : α → List Fresh) (vs' : List Value)
    (hG : TysOK P G) (hm : P.follows .mixedOrders = true) (hf : P.funcs[g]? = some fn) (hb : fn.body = some cd) (hr : ∀ xs w, (callFunc g xs).run P w = .ok (.enter g xs) w)
    (hin : PartsIn h ss) (hre0 : PartsRe (partX ss 0) ss) (hre : ∀ κ, ok κ → PartsRe (partX ss 0) (setD ss (dd κ))) (hap : Apart ss) (hex : PartsX ss) (hmi : ∀ κ, ok κ → MadeX h (ns κ)) (hvs : All2 (Re2 (partX ss 0)) vs vs') (hop : Opens ss okB h1)
    (hwp : ∀ β, okB β → initK vs' fn.ntmps fun t => wpC P G ss.length cd (bodyQ P G fn fun v st => N (EndN ss st.h v fun v' h' => N (SomeN fun κ => ok κ ∧ N (Obl (Re (partX ss 0 ++ madeX (ns κ)) (V κ) v') (N (Obl (PostS (partX ss 0 ++ madeX (ns κ)) h' (setD ss (dd κ)) 0) (N (Obl (PostN (partX ss 0 ++ madeX (ns κ)) h' ss.length (ns κ)) (N (Obl (PostX h' (setD ss (dd κ)) 0 ∧ MadeP h' (ns κ)) (N True))))))))))) ⟨t, h1 β⟩) :
    CallAll P g vs h fun v ms => ∃ κ, ok κ ∧ v = V κ ∧ ms = partM (setD ss (dd κ)) ++ madeM (ns κ) := fun X ρ w xs H hx => by
  obtain ⟨S, E⟩ := H.ext
  have T := sub_tidy (fun s hs => hin.at s hs) hex E
  obtain ⟨H0, hargs⟩ := sub_start ss vs' (fun s hs => hin.at s hs) hre0 hap hex.at hvs H E hx
  obtain ⟨β, hβ, ρ', hag, hfil, H1⟩ := hop _ _ w T H0
  have hargs' : All2 (Den (Fil (h1 β)) ρ') vs' xs := all2_up hag hfil hargs
  refine .inr ⟨hr _ w, ?_⟩
  refine (calls_sx (X := ⟨w, subM ρ S ss, ss.length, fun k => ρ (subσ ss k)⟩) (args := ⟨xs⟩) hG hm hf hb H1 hargs' (hwp β hβ)).mono ?_
  rintro e w' ⟨ρ1, v, st, x, rfl, H2, hdx, hq⟩
  obtain ⟨v', h', ρ2, H3, hd3, hq⟩ := N.out hq _ _ _ _ T H2 hdx
  obtain ⟨κ, hok, hq⟩ := N.out hq
  have q1 : Re (partX ss 0 ++ madeX (ns κ)) (V κ) v' ∧ N _ := N.out hq
  have q2 : PostS (partX ss 0 ++ madeX (ns κ)) h' (setD ss (dd κ)) 0 ∧ N _ := N.out q1.2
  have q3 : PostN (partX ss 0 ++ madeX (ns κ)) h' ss.length (ns κ) ∧ N _ := N.out q2.2
  have q4 : (PostX h' (setD ss (dd κ)) 0 ∧ MadeP h' (ns κ)) ∧ N True := N.out q3.2
  obtain ⟨ρ', ha, hh, hd⟩ := sub_glue (h₂ := h) (hE := h') (V := V κ) (setD ss (dd κ)) (ns κ) (fun s hs => by
    obtain ⟨t, ht, e1, e2, _⟩ := setD_mem hs
    rw [← e1, ← e2]; exact hin.at t ht) (fun n hn => ((hmi κ hok).at n hn).1) (by rw [setD_X]; exact hre κ hok) (setD_apart hap) (fun n hn => ((hmi κ hok).at n hn).2) (fun n hn m hm => (hmi κ hok).ne n hn m hm) H E
    (by rw [setD_M, setD_σ, setD_len]; exact H3) hd3 (by rw [setD_X]; exact q1.1) (by rw [setD_X]; exact q2.1) (by rw [setD_X, setD_len]; exact q3.1) (fun l s hl _ => by have := q4.1.1.at l s hl; rwa [Nat.zero_add] at this) q4.1.2.at
  exact ⟨x, rfl, V κ, _, ρ', ⟨κ, hok, rfl, rfl⟩, ha, hh, hd⟩
end
end Go.Proofs.YtijiggkhnpmaiaaGreat.Sx


/-
  Maps from whole numbers: a stretch that is a map; its operations.
-/
set_option linter.unusedVariables false
set_option linter.unusedSimpArgs false
namespace Go.Proofs.YtijiggkhnpmaiaaGreat.Sx
open Go Go.RowKit Go.MapKept

section
variable {α : Type}
def dGet (D : List (Int × α)) (k : Int) : Option α := (D.find? fun q => decide (q.1 = k)).map (·.2)
def dPut (D : List (Int × α)) (k : Int) (a : α) : List (Int × α) := match dGet D k with
  | some _ => D.map fun q => if q.1 = k then (k, a) else q
  | none => D ++ [(k, a)]
def dDel (D : List (Int × α)) (k : Int) : List (Int × α) := D.filter fun q => !decide (q.1 = k)
theorem dGet_none {D : List (Int × α)} {k : Int} : dGet D k = none ↔ ∀ q ∈ D, q.1 ≠ k := by
  simp [dGet, List.find?_eq_none]
theorem dGet_some {D : List (Int × α)} {k : Int} {a : α} (h : dGet D k = some a) : (k, a) ∈ D := by
  simp only [dGet, Option.map_eq_some_iff] at h
  obtain ⟨q, hq, rfl⟩ := h
  have h1 := List.find?_some hq
  have h2 := List.mem_of_find?_eq_some hq
  simp only [decide_eq_true_eq] at h1
  rw [← h1]; exact h2
theorem dGet_mem {D : List (Int × α)} {k : Int} {a : α} (hd : (D.map (·.1)).Nodup) (h : (k, a) ∈ D) : dGet D k = some a := by
  induction D with
  | nil => cases h
  | cons q D ih =>
    simp only [List.map_cons, List.nodup_cons] at hd
    unfold dGet
    rw [List.find?_cons]
    by_cases e : q.1 = k
    · have : decide (q.1 = k) = true := by simp [e]
      rw [this]
      rcases List.mem_cons.1 h with rfl | h
      · rfl
      · exact absurd (List.mem_map.2 ⟨(k, a), h, rfl⟩) (e ▸ hd.1)
    · have : decide (q.1 = k) = false := by simp [e]
      rw [this]
      rcases List.mem_cons.1 h with rfl | h
      · exact absurd rfl e
      · exact ih hd.2 h
end

/-- An array of entries that reads as D. -/
structure MapIs {α : Type} (enc : α → Value) (D : List (Int × α)) (es : Array MapEntry) (clock : Nat) : Prop where
  ents : es.toList.map (fun e => (e.key, e.val)) = D.map fun q => (.int .i64 q.1, enc q.2)
  stamped : Stamped es clock
  wf : ∀ q ∈ D, -9223372036854775808 ≤ q.1 ∧ q.1 ≤ 9223372036854775807
section
variable {α : Type} {enc : α → Value} {D : List (Int × α)} {es : Array MapEntry} {clock : Nat}
theorem MapIs.at (M : MapIs enc D es clock) (j : Nat) : (es.toList[j]?).map (fun e => (e.key, e.val)) = (D[j]?).map fun q => ((.int .i64 q.1, enc q.2) : Value × Value) := by
  have := congrArg (fun l => l[j]?) M.ents
  simpa using this
theorem MapIs.keys (M : MapIs enc D es clock) : ∀ x ∈ es.toList, ∃ k, x.key = .int .i64 k := fun x hx => by
  have : (x.key, x.val) ∈ es.toList.map (fun e => (e.key, e.val)) := List.mem_map.2 ⟨x, hx, rfl⟩
  rw [M.ents] at this
  obtain ⟨q, _, e⟩ := List.mem_map.1 this
  exact ⟨q.1, (Prod.mk.inj e).1.symm⟩
theorem MapIs.isKey (M : MapIs enc D es clock) : ∀ x ∈ es.toList, IsKey (.int .i64) x.key := fun x hx => by
  obtain ⟨k, e⟩ := M.keys x hx
  rw [e]; exact rfl
theorem MapIs.nodup (M : MapIs enc D es clock) : (D.map (·.1)).Nodup := by
  have h := M.stamped.2.2
  have e : es.toList.map (·.key) = (D.map (·.1)).map (Value.int .i64) := by
    have := congrArg (fun l => l.map Prod.fst) M.ents
    simpa [List.map_map, Function.comp_def] using this
  rw [e] at h
  exact List.Pairwise.of_map (Value.int .i64) (fun a b hab e => hab (by rw [e])) h
theorem MapIs.find (M : MapIs enc D es clock) (k : Int) : (dGet D k = none ∧ Instr.findNow (.int .i64) (.int .i64 k) es.toList 0 = some none ∧ ∀ x ∈ es.toList, x.key ≠ .int .i64 k) ∨
    ∃ j a, dGet D k = some a ∧ D[j]? = some (k, a) ∧ (∃ e, es.toList[j]? = some e ∧ e.key = .int .i64 k) ∧ Instr.findNow (.int .i64) (.int .i64 k) es.toList 0 = some (some (j, enc a)) := by
  rcases findNow_spec (d := .int .i64) (k := .int .i64 k) rfl es.toList 0 M.isKey with ⟨h1, h2⟩ | ⟨j, e, h1, h2, h3⟩
  · refine .inl ⟨dGet_none.2 fun q hq e => ?_, h1, h2⟩
    have : ((.int .i64 q.1, enc q.2) : Value × Value) ∈ es.toList.map (fun e => (e.key, e.val)) := by rw [M.ents]; exact List.mem_map.2 ⟨q, hq, rfl⟩
    obtain ⟨x, hx, ex⟩ := List.mem_map.1 this
    exact h2 x hx (by rw [(Prod.mk.inj ex).1, e])
  · have hj := M.at j
    rw [h2] at hj
    simp only [Option.map_some] at hj
    cases hq : D[j]? with
    | none => rw [hq] at hj; cases hj
    | some q =>
      rw [hq] at hj
      simp only [Option.map_some, Option.some.injEq, Prod.mk.injEq] at hj
      have hk : q.1 = k := by
        have := hj.1
        rw [h3] at this
        simpa using this.symm
      obtain ⟨q1, a⟩ := q
      subst hk
      refine .inr ⟨j, a, dGet_mem M.nodup (List.mem_of_getElem? hq), hq, ⟨e, h2, h3⟩, ?_⟩
      rw [h1, Nat.zero_add, hj.2]
theorem MapIs.put (M : MapIs enc D es clock) {k : Int} (hk : -9223372036854775808 ≤ k ∧ k ≤ 9223372036854775807) (a : α) {j : Nat} {b : α} (hg : dGet D k = some b) (hj : D[j]? = some (k, b)) (hv : Value) (hve : hv = enc a) : MapIs enc (dPut D k a) (es.modify j fun e => { e with key := .int .i64 k, val := hv }) clock := by
  subst hve
  have hnd := M.nodup
  have hjl := (List.getElem?_eq_some_iff.1 hj).1
  refine ⟨?_, stamped_modify M.stamped j _ (fun _ _ => rfl) (fun e _ he => ?_), fun q hq => ?_⟩
  · unfold dPut
    rw [hg]
    apply List.ext_getElem?
    intro i
    simp only [List.getElem?_map, Array.getElem?_toList, Array.getElem?_modify]
    have hi := M.at i
    rw [Array.getElem?_toList] at hi
    by_cases e : j = i
    · subst e
      rw [hj] at hi ⊢
      cases he : es[j]? with
      | none => rw [he] at hi; cases hi
      | some x => simp
    · rw [if_neg e, hi]
      cases hq : D[i]? with
      | none => simp
      | some q =>
        have hne : q.1 ≠ k := fun h => by
          refine e ((List.getElem?_inj (l := D.map (·.1)) (by simpa using hjl) hnd).1 ?_)
          rw [List.getElem?_map, List.getElem?_map, hj, hq]; simp [h]
        simp [hne]
  · have hi := M.at j
    rw [Array.getElem?_toList, he, hj] at hi
    simp only [Option.map_some, Option.some.injEq, Prod.mk.injEq] at hi
    exact hi.1.symm
  · unfold dPut at hq
    rw [hg] at hq
    obtain ⟨q', hq', rfl⟩ := List.mem_map.1 hq
    split
    · exact hk
    · exact M.wf q' hq'
theorem MapIs.push (M : MapIs enc D es clock) {k : Int} (hk : -9223372036854775808 ≤ k ∧ k ≤ 9223372036854775807) (a : α) (hg : dGet D k = none) (hn : ∀ x ∈ es.toList, x.key ≠ .int .i64 k) : MapIs enc (dPut D k a) (es.push { key := .int .i64 k, val := enc a, born := clock }) (clock + 1) := by
  refine ⟨?_, stamped_push M.stamped hn, fun q hq => ?_⟩
  · unfold dPut
    rw [hg]
    simp only [Array.toList_push, List.map_append, M.ents, List.map_cons, List.map_nil]
  · unfold dPut at hq
    rw [hg] at hq
    rcases List.mem_append.1 hq with hq | hq
    · exact M.wf q hq
    · simp only [List.mem_singleton] at hq; subst hq; exact hk
theorem map_erase {β γ : Type} (f : β → γ) : ∀ (l : List β) (j : Nat), (l.eraseIdx j).map f = (l.map f).eraseIdx j
  | [], _ => by simp
  | x :: l, 0 => by simp
  | x :: l, j + 1 => by simp [map_erase f l j]
theorem filter_erase {D : List (Int × α)} {k : Int} {a : α} (hnd : (D.map (·.1)).Nodup) {j : Nat} (hj : D[j]? = some (k, a)) : D.eraseIdx j = dDel D k := by
  induction D generalizing j with
  | nil => simp at hj
  | cons q D ih =>
    simp only [List.map_cons, List.nodup_cons] at hnd
    cases j with
    | zero =>
      simp at hj
      subst hj
      have : D.filter (fun q => !decide (q.1 = k)) = D := List.filter_eq_self.2 fun q hq => by
        have : q.1 ≠ k := fun e => hnd.1 (e ▸ List.mem_map.2 ⟨q, hq, rfl⟩)
        simp [this]
      simp [dDel, this]
    | succ j =>
      have hj' : D[j]? = some (k, a) := by simpa using hj
      have hne : q.1 ≠ k := fun e => hnd.1 (e ▸ List.mem_map.2 ⟨(k, a), List.mem_of_getElem? hj', rfl⟩)
      simp only [List.eraseIdx_cons_succ, ih hnd.2 hj']
      simp [dDel, hne]
theorem MapIs.erase (M : MapIs enc D es clock) {k : Int} {a : α} {j : Nat} (hj : D[j]? = some (k, a)) : MapIs enc (dDel D k) (es.eraseIdxIfInBounds j) clock := by
  refine ⟨?_, stamped_erase M.stamped j, fun q hq => M.wf q (List.mem_filter.1 hq).1⟩
  have hl := (List.getElem?_eq_some_iff.1 hj).1
  have hsz : es.size = D.length := by have := congrArg List.length M.ents; simpa using this
  unfold Array.eraseIdxIfInBounds
  rw [dif_pos (by omega)]
  rw [Array.toList_eraseIdx, ← filter_erase M.nodup hj, map_erase, map_erase, M.ents]
theorem MapIs.size (M : MapIs enc D es clock) : es.size = D.length := by have := congrArg List.length M.ents; simpa using this
theorem MapIs.nil : MapIs enc ([] : List (Int × α)) #[] 0 := ⟨rfl, stamped_empty 0, fun q hq => by cases hq⟩
end

/-- The stretch is a map. -/
abbrev mapX {α : Type} (enc : α → Value) (D : List (Int × α)) : Ext where
  inv := fun p S w => (∀ b, S b ↔ b = p.1) ∧ ∃ es clock, w.heap[p.1]? = some (.map es clock) ∧ MapIs enc D es clock
  keep := fun h hb => ⟨h.1, by obtain ⟨es, clock, h1, h2⟩ := h.2; exact ⟨es, clock, (hb _ ((h.1 _).2 rfl)).trans h1, h2⟩⟩
theorem mapX_selfish {α : Type} {enc : α → Value} {D : List (Int × α)} : Selfish (mapX enc D) := fun p S w h => (h.1 _).2 rfl
abbrev mapC {α : Type} (enc : α → Value) (D : List (Int × α)) : Chunk := @Chunk.mk (mapX enc D) true 0 []

section
variable {P : Program} {G : Tys} {α : Type} {enc : α → Value} {D : List (Int × α)}
theorem run_zero {et : TypeId} {ei : TypeInfo} {z : Value} (he : P.info? et = some ei) (hz : ei.zero = some z) (w : World) : (zeroValue et).run P w = .ok z w := by
  simp [zeroValue, typeInfo, Sem.run_bind, run_program, Result.andThen_ok, he, hz]
theorem run_look {t kt et : TypeId} {ei : TypeInfo} {z : Value} {es : Array MapEntry} {clock : Nat} {w : World} {b : Nat} (ht : P.underlying t = some (.map kt et)) (hk : P.underlying kt = some (.int .i64)) (he : P.info? et = some ei) (hz : ei.zero = some z)
    (hb : w.heap[b]? = some (.map es clock)) (M : MapIs enc D es clock) (k : Int) (c : Bool) :
    (Instr.lookup t (.map (some b)) (.int .i64 k) c).run P w = .ok (if c then .tuple #[((dGet D k).map enc).getD z, .bool (dGet D k).isSome] else ((dGet D k).map enc).getD z) w := by
  rcases M.find k with ⟨h1, h2, _⟩ | ⟨j, a, h1, _, _, h2⟩
  · simp [Instr.lookup, run_underlying ht, MapKept.run_getObj_map hb, run_checkKey hk (k := .int .i64 k) rfl, run_findKey hk h2, run_zero he hz, h1, Result.andThen]
  · simp [Instr.lookup, run_underlying ht, MapKept.run_getObj_map hb, run_checkKey hk (k := .int .i64 k) rfl, run_findKey hk h2, h1, Result.andThen]
theorem N_look {t kt et : TypeId} {ei : TypeInfo} {z : Value} {c : Chunk} {k : Int} {b : Bool} {K : Value → Prop} (enc : α → Value) (D : List (Int × α)) (hc : c.x = mapX enc D) (ht : P.underlying t = some (.map kt et)) (hk : P.underlying kt = some (.int .i64)) (he : P.info? et = some ei) (hz : ei.zero = some z)
    (v : Value) (hv : v = (if b then .tuple #[((dGet D k).map enc).getD z, .bool (dGet D k).isSome] else ((dGet D k).map enc).getD z)) (hp : plain3 v = true) (h : K v) : N (LookN P t c (.int .i64 k) b K) :=
  N.mk ⟨v, den_plain3 hp, fun p S w hi => by
    rw [hc] at hi
    obtain ⟨_, es, clock, hb, M⟩ := hi
    rw [run_look ht hk he hz hb M k b, hv], h⟩
theorem turns_put {t kt et : TypeId} {c : Chunk} {k : Int} {a : α} {v : Value} (hc : c.x = mapX enc D) (ho : c.own = true) (hkk : -9223372036854775808 ≤ k ∧ k ≤ 9223372036854775807) (hv : v = enc a) (ht : P.underlying t = some (.map kt et)) (hk : P.underlying kt = some (.int .i64)) :
    Turns P c (mapC enc (dPut D k a)) (fun b => Instr.mapUpdate t (.map (some b)) (.int .i64 k) v) () := by
  refine ⟨fun _ => ho, rfl, fun p S w hi => ?_⟩
  rw [hc] at hi
  obtain ⟨hS, es, clock, hb, M⟩ := hi
  refine ⟨(hS _).2 rfl, ?_⟩
  have hlt : p.1 < w.heap.size := (Array.getElem?_eq_some_iff.1 hb).1
  rcases M.find k with ⟨h1, h2, h3⟩ | ⟨j, a', h1, hj, ⟨e, he1, he2⟩, h2⟩
  · refine ⟨{ w with heap := w.heap.setIfInBounds p.1 (.map (es.push { key := .int .i64 k, val := v, born := clock }) (clock + 1)) }, ?_, rfl, rfl, rfl, by simp, fun b hne => by simp [Ne.symm hne], hS, _, _, (heap_set hb).1, ?_⟩
    · simp [Instr.mapUpdate, run_underlying ht, MapKept.run_getObj_map hb, run_checkKey hk (k := .int .i64 k) rfl, run_findKey hk h2, MapKept.run_setObj_map _ hb, Result.andThen]
    · rw [hv]; exact M.push hkk a h1 h3
  · refine ⟨{ w with heap := w.heap.setIfInBounds p.1 (.map (es.modify j fun e => { e with key := .int .i64 k, val := v }) clock) }, ?_, rfl, rfl, rfl, by simp, fun b hne => by simp [Ne.symm hne], hS, _, _, (heap_set hb).1, ?_⟩
    · have hj2 : es[j]? = some e := by rw [← Array.getElem?_toList]; exact he1
      simp [Instr.mapUpdate, run_underlying ht, MapKept.run_getObj_map hb, run_checkKey hk (k := .int .i64 k) rfl, run_findKey hk h2, hj2, he2, run_keyThatStays (d := .int .i64) (k := .int .i64 k) rfl, MapKept.run_setObj_map _ hb, Result.andThen]
    · exact M.put hkk a h1 hj v hv
theorem turns_del {t kt et ty : TypeId} {ts : Array TypeId} {c : Chunk} {k : Int} (hc : c.x = mapX enc D) (ho : c.own = true) (hts : ts[0]? = some t) (ht : P.underlying t = some (.map kt et)) (hk : P.underlying kt = some (.int .i64)) :
    Turns P c (mapC enc (dDel D k)) (fun b => Builtin.delete_ ts ty #[.map (some b), .int .i64 k]) (.tuple #[]) := by
  refine ⟨fun _ => ho, rfl, fun p S w hi => ?_⟩
  rw [hc] at hi
  obtain ⟨hS, es, clock, hb, M⟩ := hi
  refine ⟨(hS _).2 rfl, ?_⟩
  have hlt : p.1 < w.heap.size := (Array.getElem?_eq_some_iff.1 hb).1
  rcases M.find k with ⟨h1, h2, h3⟩ | ⟨j, a', h1, hj, _, h2⟩
  · refine ⟨{ w with heap := w.heap.setIfInBounds p.1 (.map es clock) }, ?_, rfl, rfl, rfl, by simp, fun b hne => by simp [Ne.symm hne], hS, _, _, (heap_set hb).1, ?_⟩
    · simp [Builtin.delete_, hts, run_underlying ht, MapKept.run_getObj_map hb, run_checkKey hk (k := .int .i64 k) rfl, run_findKey hk h2, MapKept.run_setObj_map _ hb, Result.andThen]
    · have : dDel D k = D := List.filter_eq_self.2 fun q hq => by simp [dGet_none.1 h1 q hq]
      rw [this]; exact M
  · refine ⟨{ w with heap := w.heap.setIfInBounds p.1 (.map (es.eraseIdxIfInBounds j) clock) }, ?_, rfl, rfl, rfl, by simp, fun b hne => by simp [Ne.symm hne], hS, _, _, (heap_set hb).1, M.erase hj⟩
    simp [Builtin.delete_, hts, run_underlying ht, MapKept.run_getObj_map hb, run_checkKey hk (k := .int .i64 k) rfl, run_findKey hk h2, MapKept.run_setObj_map _ hb, Result.andThen]
theorem N_put {t kt et : TypeId} {c : Chunk} {k : Int} {v : Value} {K : Chunk → Prop} (enc : α → Value) (D : List (Int × α)) (a : α) (hc : c.x = mapX enc D) (ho : c.own = true) (hkk : -9223372036854775808 ≤ k ∧ k ≤ 9223372036854775807) (hv : v = enc a) (ht : P.underlying t = some (.map kt et)) (hk : P.underlying kt = some (.int .i64))
    (h : K (mapC enc (dPut D k a))) : N (TurnN P c (fun b => Instr.mapUpdate t (.map (some b)) (.int .i64 k) v) K) := N.mk ⟨_, turns_put hc ho hkk hv ht hk, h⟩
theorem N_del {t kt et ty : TypeId} {ts : Array TypeId} {c : Chunk} {k : Int} {A : Chunk → Prop} (enc : α → Value) (D : List (Int × α)) (hc : c.x = mapX enc D) (ho : c.own = true) (hts : ts[0]? = some t) (ht : P.underlying t = some (.map kt et)) (hk : P.underlying kt = some (.int .i64))
    (h : A (mapC enc (dDel D k))) : N (TurnV P c (fun b => Builtin.delete_ ts ty #[.map (some b), .int .i64 k]) fun v d => N (Obl (v = .tuple #[]) (A d))) :=
  N.mk ⟨.tuple #[], _, fun ρ => by simp [den], turns_del hc ho hts ht hk, N.obl rfl h⟩
theorem N_lenM {t kt et ty : TypeId} {ts : Array TypeId} {c : Chunk} {K : Value → Prop} (enc : α → Value) (D : List (Int × α)) (hc : c.x = mapX enc D) (hts : ts[0]? = some t) (ht : P.underlying t = some (.map kt et)) (h : K (.int .i64 (D.length : Nat))) : N (LenMN P ts ty c K) :=
  N.mk ⟨.int .i64 (D.length : Nat), fun ρ => by simp [den, den2, den1, den0], fun p S w hi => by
    rw [hc] at hi
    obtain ⟨_, es, clock, hb, M⟩ := hi
    simp [Builtin.len_, hts, run_underlying ht, MapKept.run_getObj_map hb, Result.andThen, M.size, goInt], h⟩
theorem N_mkMap {K : Chunk → Prop} (enc : α → Value) (h : K (mapC enc [])) : N (MkMapN K) :=
  N.mk ⟨mapC enc [], rfl, fun w => ⟨fun b => Iff.rfl, #[], 0, (heap_alloc w (.map #[] 0)).1, MapIs.nil⟩, h⟩
end
end Go.Proofs.YtijiggkhnpmaiaaGreat.Sx


/-
  The walks of serial: May, Diff, Less; of table: node, time.
-/
set_option linter.unusedVariables false
set_option linter.unusedSimpArgs false
namespace Go.Proofs.YtijiggkhnpmaiaaGreat
open Go Go.RowKit Sx

abbrev serOK (s : Int) : Prop := 0 ≤ s ∧ s ≤ 65535
/-- x and a mask of so many ones: the rest by the power. -/
theorem and_mask (x : Int) : IntKind.i64.wrap ((BitVec.ofInt IntKind.i64.bits x &&& BitVec.ofInt IntKind.i64.bits 65535).toNat : Nat) = x % 65536 := by
  have h1 : (BitVec.ofInt IntKind.i64.bits 65535).toNat = 2 ^ 16 - 1 := by decide
  have h2 : (BitVec.ofInt IntKind.i64.bits x &&& BitVec.ofInt IntKind.i64.bits 65535).toNat = (BitVec.ofInt IntKind.i64.bits x).toNat % 65536 := by
    rw [BitVec.toNat_and, h1, Nat.and_two_pow_sub_one_eq_mod]
  have h3 : ((BitVec.ofInt IntKind.i64.bits x).toNat : Int) = x % 18446744073709551616 := by
    rw [BitVec.toNat_ofInt]
    have : (0 : Int) ≤ x % ((2 ^ IntKind.i64.bits : Nat) : Int) := Int.emod_nonneg _ (by decide)
    rw [Int.toNat_of_nonneg this]
    rfl
  rw [h2, IntKind.wrap_i64]
  omega
def serD (a b : Int) : Int := if serOK a ∧ serOK b then (if (b - a) % 65536 > 32768 then (b - a) % 65536 - 65536 else (b - a) % 65536) else 0
theorem serD_in (a b : Int) : -32767 ≤ serD a b ∧ serD a b ≤ 32768 := by unfold serD; split <;> (try split) <;> omega
set_option maxRecDepth 100000 in
set_option maxHeartbeats 1000000 in
theorem sermay_x (s : Int)  (w : World) : Calls Tryz.prog 44 #[.int .i64 s] w fun e w' => e = .returned (.bool (decide (serOK s))) ∧ Below w.heap.size w w' := by
  refine calls_pure (G := tys) w tysOK mixed Tryz.func44 (by rfl) (by first | rfl | (simp only [List.all_cons, List.all_nil, plain_wz, plain_lim, plain_wi]; rfl)) (by first | exact plain3_wz _ | exact plain3_wi _ _ _ | rfl | (simp only [plain3, List.all_cons, List.all_nil, plain_wz, plain_lim, plain_wi]; rfl)) ?_
  repeat' (refine N.go ?_; first | with_reducible refine N.obl (by decide) ?_ | with_reducible refine N.obl (flat_wi _ _ _) ?_ | with_reducible refine N.obl (flat_lim _ _) ?_ | with_reducible refine N.eq ?_ | with_reducible refine N.obl rfl ?_ | with_reducible refine N.obl ⟨by kernel_rfl, by kernel_rfl⟩ ?_ | with_reducible refine N.alt ?_ | with_reducible refine N.forkT ?_ | with_reducible refine N.forkF ?_ | with_reducible refine N.fork (fun hb => ?_) (fun hb => ?_) | fail_if_success skip)
  all_goals
    refine boolD ?_
    simp only [decide_eq_true_eq, decide_eq_false_iff_not, Bool.false_eq_true, false_iff, true_iff, iff_true, iff_false, reduceCtorEq, not_true_eq_false, not_false_eq_true, ge_iff_le, gt_iff_lt] at *
    omega
set_option maxRecDepth 100000 in
set_option maxHeartbeats 1000000 in
theorem tnode_x (s : Int)  (w : World) : Calls Tryz.prog 43 #[.int .i64 s] w fun e w' => e = .returned (.bool (decide (0 ≤ s ∧ s < 64))) ∧ Below w.heap.size w w' := by
  refine calls_pure (G := tys) w tysOK mixed Tryz.func43 (by rfl) (by first | rfl | (simp only [List.all_cons, List.all_nil, plain_wz, plain_lim, plain_wi]; rfl)) (by first | exact plain3_wz _ | exact plain3_wi _ _ _ | rfl | (simp only [plain3, List.all_cons, List.all_nil, plain_wz, plain_lim, plain_wi]; rfl)) ?_
  repeat' (refine N.go ?_; first | with_reducible refine N.obl (by decide) ?_ | with_reducible refine N.obl (flat_wi _ _ _) ?_ | with_reducible refine N.obl (flat_lim _ _) ?_ | with_reducible refine N.eq ?_ | with_reducible refine N.obl rfl ?_ | with_reducible refine N.obl ⟨by kernel_rfl, by kernel_rfl⟩ ?_ | with_reducible refine N.alt ?_ | with_reducible refine N.forkT ?_ | with_reducible refine N.forkF ?_ | with_reducible refine N.fork (fun hb => ?_) (fun hb => ?_) | fail_if_success skip)
  all_goals
    refine boolD ?_
    simp only [decide_eq_true_eq, decide_eq_false_iff_not, Bool.false_eq_true, false_iff, true_iff, iff_true, iff_false, reduceCtorEq, not_true_eq_false, not_false_eq_true, ge_iff_le, gt_iff_lt] at *
    omega
set_option maxRecDepth 100000 in
set_option maxHeartbeats 1000000 in
theorem ttime_x (s : Int)  (w : World) : Calls Tryz.prog 45 #[.int .i64 s] w fun e w' => e = .returned (.bool (decide (0 ≤ s ∧ s ≤ 1000000))) ∧ Below w.heap.size w w' := by
  refine calls_pure (G := tys) w tysOK mixed Tryz.func45 (by rfl) (by first | rfl | (simp only [List.all_cons, List.all_nil, plain_wz, plain_lim, plain_wi]; rfl)) (by first | exact plain3_wz _ | exact plain3_wi _ _ _ | rfl | (simp only [plain3, List.all_cons, List.all_nil, plain_wz, plain_lim, plain_wi]; rfl)) ?_
  repeat' (refine N.go ?_; first | with_reducible refine N.obl (by decide) ?_ | with_reducible refine N.obl (flat_wi _ _ _) ?_ | with_reducible refine N.obl (flat_lim _ _) ?_ | with_reducible refine N.eq ?_ | with_reducible refine N.obl rfl ?_ | with_reducible refine N.obl ⟨by kernel_rfl, by kernel_rfl⟩ ?_ | with_reducible refine N.alt ?_ | with_reducible refine N.forkT ?_ | with_reducible refine N.forkF ?_ | with_reducible refine N.fork (fun hb => ?_) (fun hb => ?_) | fail_if_success skip)
  all_goals
    refine boolD ?_
    simp only [decide_eq_true_eq, decide_eq_false_iff_not, Bool.false_eq_true, false_iff, true_iff, iff_true, iff_false, reduceCtorEq, not_true_eq_false, not_false_eq_true, ge_iff_le, gt_iff_lt] at *
    omega
theorem cSerMay (s : Int) (h : List (Option Chunk)) : CallOK Tryz.prog 44 [.int .i64 s] h (.bool (decide (serOK s))) [] [] := call_pure rfl rfl (Tryz.call44 _) (sermay_x s)
theorem cTnode (s : Int) (h : List (Option Chunk)) : CallOK Tryz.prog 43 [.int .i64 s] h (.bool (decide (0 ≤ s ∧ s < 64))) [] [] := call_pure rfl rfl (Tryz.call43 _) (tnode_x s)
theorem cTtime (s : Int) (h : List (Option Chunk)) : CallOK Tryz.prog 45 [.int .i64 s] h (.bool (decide (0 ≤ s ∧ s ≤ 1000000))) [] [] := call_pure rfl rfl (Tryz.call45 _) (ttime_x s)
set_option maxRecDepth 100000 in
set_option maxHeartbeats 1000000 in
theorem serdiff_x (a b : Int)  (w : World) : Calls Tryz.prog 81 #[.int .i64 a, .int .i64 b] w fun e w' => e = .returned (.int .i64 (serD a b)) ∧ Below w.heap.size w w' := by
  refine calls_pure (G := tys) w tysOK mixed Tryz.func81 (by rfl) (by first | rfl | (simp only [List.all_cons, List.all_nil, plain_wz, plain_lim, plain_wi]; rfl)) (by first | exact plain3_wz _ | exact plain3_wi _ _ _ | rfl | (simp only [plain3, List.all_cons, List.all_nil, plain_wz, plain_lim, plain_wi]; rfl)) ?_
  repeat' (refine N.go ?_; first | with_reducible refine N.obl (by decide) ?_ | with_reducible refine N.obl (flat_wi _ _ _) ?_ | with_reducible refine N.obl (flat_lim _ _) ?_ | with_reducible refine N.eq ?_ | with_reducible refine N.obl rfl ?_ | with_reducible refine N.obl ⟨by kernel_rfl, by kernel_rfl⟩ ?_ | with_reducible refine N.alt ?_ | with_reducible refine N.forkT ?_ | with_reducible refine N.forkF ?_ | refine N.call (cSerMay _ _) ?_ | with_reducible refine N.fork (fun hb => ?_) (fun hb => ?_) | fail_if_success skip)
  all_goals
    refine congrArg _ ?_
    unfold serD
    simp only [and_mask, Bool.not_eq_eq_eq_not, Bool.not_true, Bool.not_false, decide_eq_true_eq, decide_eq_false_iff_not] at *
    first
      | (rw [if_neg (by omega)]; first | done | fail)
      | (rw [if_pos (by omega)]
         have e : IntKind.i64.wrap (b - a) = b - a := by rw [IntKind.wrap_i64]; omega
         split <;> first
           | omega
           | (rw [IntKind.wrap_i64]; omega))
theorem cSerDiff (a b : Int) (h : List (Option Chunk)) : CallOK Tryz.prog 81 [.int .i64 a, .int .i64 b] h (.int .i64 (serD a b)) [] [] := call_pure rfl rfl (Tryz.call81 _) (serdiff_x a b)
set_option maxRecDepth 100000 in
set_option maxHeartbeats 1000000 in
theorem serless_x (a b : Int)  (w : World) : Calls Tryz.prog 79 #[.int .i64 a, .int .i64 b] w fun e w' => e = .returned (.bool (decide (0 < serD a b ∧ serD a b < 32768))) ∧ Below w.heap.size w w' := by
  refine calls_pure (G := tys) w tysOK mixed Tryz.func79 (by rfl) (by first | rfl | (simp only [List.all_cons, List.all_nil, plain_wz, plain_lim, plain_wi]; rfl)) (by first | exact plain3_wz _ | exact plain3_wi _ _ _ | rfl | (simp only [plain3, List.all_cons, List.all_nil, plain_wz, plain_lim, plain_wi]; rfl)) ?_
  repeat' (refine N.go ?_; first | with_reducible refine N.obl (by decide) ?_ | with_reducible refine N.obl (flat_wi _ _ _) ?_ | with_reducible refine N.obl (flat_lim _ _) ?_ | with_reducible refine N.eq ?_ | with_reducible refine N.obl rfl ?_ | with_reducible refine N.obl ⟨by kernel_rfl, by kernel_rfl⟩ ?_ | with_reducible refine N.alt ?_ | with_reducible refine N.forkT ?_ | with_reducible refine N.forkF ?_ | refine N.call (cSerDiff _ _ _) ?_ | with_reducible refine N.fork (fun hb => ?_) (fun hb => ?_) | fail_if_success skip)
  all_goals
    refine boolD ?_
    simp only [decide_eq_true_eq, decide_eq_false_iff_not, Bool.false_eq_true, false_iff, true_iff, iff_true, iff_false, reduceCtorEq, not_true_eq_false, not_false_eq_true, ge_iff_le, gt_iff_lt] at *
    omega
theorem cSerLess (a b : Int) (h : List (Option Chunk)) : CallOK Tryz.prog 79 [.int .i64 a, .int .i64 b] h (.bool (decide (0 < serD a b ∧ serD a b < 32768))) [] [] := call_pure rfl rfl (Tryz.call79 _) (serless_x a b)
end Go.Proofs.YtijiggkhnpmaiaaGreat


/-
  Stretches packed into one: what lies behind a pointer, told by a list of stretches; families of like stretches; real addresses.
-/
set_option linter.unusedVariables false
set_option linter.unusedSimpArgs false
namespace Go.Proofs.YtijiggkhnpmaiaaGreat.Sx
open Go Go.RowKit

/-! ### Real addresses -/
/-- The stretch lies at q. -/
abbrev atX (q : Nat × Nat) : Ext where
  inv := fun p S _ => p = q ∧ ∀ b, ¬ S b
  keep := fun h _ => h
/-- The pointer to a stretch's cell, as it is. -/
def realP (q : Nat × Nat) : Value := .pointer (some ⟨q.1, q.2, none⟩)
theorem realP_den {q : Nat × Nat} {ρ : Nat → Nat × Nat} : den ρ (realP q) = realP q := rfl

/-! ### Families -/
/-- Stretches of n cells each, at real addresses, none in another's block. -/
structure FamOK {α : Type} (n : Nat) (enc : α → Nat → Value) (F : List ((Nat × Nat) × α)) (S : Nat → Prop) (w : World) : Prop where
  dom : ∀ b, S b ↔ ∃ q ∈ F, q.1.1 = b
  nodup : (F.map (·.1.1)).Nodup
  cell : ∀ q ∈ F, ∀ j, j < n → w.cell? ⟨q.1.1, q.1.2 + j, none⟩ = some (enc q.2 j) ∧ w.frozen? ⟨q.1.1, q.1.2 + j, none⟩ = false
abbrev famX {α : Type} (n : Nat) (enc : α → Nat → Value) (F : List ((Nat × Nat) × α)) : Ext where
  inv := fun _ S w => FamOK n enc F S w
  keep := fun {p S w w'} h hb => ⟨h.dom, h.nodup, fun q hq j hj => by
    obtain ⟨h1, h2⟩ := h.cell q hq j hj
    have e := hb q.1.1 ((h.dom _).2 ⟨q, hq, rfl⟩)
    refine ⟨?_, ?_⟩
    · rw [← h1]; unfold World.cell?; simp only [e]
    · rw [← h2]; unfold World.frozen?; simp only [e]⟩

/-! ### Packs -/
structure PackOK (ρ : Nat → Nat × Nat) (h : List (Option Chunk)) (w : World) (S : Nat → Prop) (T : Nat → Nat → Prop) : Prop where
  blk : ∀ (k : Nat) (d : Chunk), h[k]? = some (some d) → S (ρ k).1
  cell : ∀ (k : Nat) (d : Chunk), h[k]? = some (some d) → ∀ j, j < d.n → ∃ x, w.cell? ⟨(ρ k).1, (ρ k).2 + j, none⟩ = some x ∧ Den1 (Fil h) ρ (d.f j) x
  own : ∀ (k : Nat) (d : Chunk), h[k]? = some (some d) → ∀ j, j < d.n → w.frozen? ⟨(ρ k).1, (ρ k).2 + j, none⟩ = false
  inv : ∀ (k : Nat) (d : Chunk), h[k]? = some (some d) → d.x.inv (ρ k) (T k) w
  foot : ∀ (k : Nat) (d : Chunk) (b : Nat), h[k]? = some (some d) → T k b → S b ∧ (d.n = 0 ∨ b ≠ (ρ k).1)
  sep : ∀ (k : Nat) (d : Chunk) (l : Nat) (e : Chunk), h[k]? = some (some d) → h[l]? = some (some e) → k ≠ l → (ρ k).1 ≠ (ρ l).1 ∧ ∀ b, T k b → (ρ l).1 ≠ b ∧ ¬ T l b
abbrev packX {B : Type} (ok : B → Prop) (h : B → List (Option Chunk)) : Ext where
  inv := fun p S w => S p.1 ∧ ∃ β, ok β ∧ ∃ ρ T, ρ 0 = p ∧ Fil (h β) 0 ∧ PackOK ρ (h β) w S T
  keep := fun {p S w w'} hh hb => ⟨hh.1, by
    obtain ⟨β, hβ, ρ, T, h0, hf, K⟩ := hh.2
    refine ⟨β, hβ, ρ, T, h0, hf, K.blk, fun k d hk j hj => ?_, fun k d hk j hj => ?_, fun k d hk => ?_, K.foot, K.sep⟩
    · obtain ⟨x, hx, hd⟩ := K.cell k d hk j hj
      refine ⟨x, ?_, hd⟩
      have e := hb _ (K.blk k d hk)
      rw [← hx]; unfold World.cell?; simp only [e]
    · have e := hb _ (K.blk k d hk)
      rw [← K.own k d hk j hj]; unfold World.frozen?; simp only [e]
    · exact d.x.keep (K.inv k d hk) fun b hT => hb b (K.foot k d b hk hT).1⟩
theorem packX_selfish {B : Type} {ok : B → Prop} {h : B → List (Option Chunk)} : Selfish (packX ok h) := fun p S w hh => hh.1
abbrev packC {B : Type} (ok : B → Prop) (h : B → List (Option Chunk)) : Chunk := @Chunk.mk (packX ok h) true 0 []

/-- A callee with one argument that is a pack begins with what is in it. -/
theorem pack_opens {B : Type} {ok : B → Prop} {h : B → List (Option Chunk)} {i : Nat} {c d : Chunk} : Opens [⟨i, c, packC ok h, d⟩] ok h := fun X ρ w T H => by
  obtain ⟨S, E⟩ := H.ext
  have h0 : (partH [⟨i, c, packC ok h, d⟩])[0]? = some (some (packC ok h)) := rfl
  have one : ∀ (k : Nat) (e : Chunk), (partH [⟨i, c, packC ok h, d⟩])[k]? = some (some e) → k = 0 := fun k e hk => by
    cases k with
    | zero => rfl
    | succ k => simp [partH] at hk
  obtain ⟨_, β, hβ, ρp, Tp, e0, hf, K⟩ := E.inv 0 _ h0
  have n0 : X.n0 = 1 := T.n0
  refine ⟨β, hβ, ρp, fun k hk => ?_, fun k hk => ?_, ?_⟩
  · obtain ⟨e, he⟩ := hk
    obtain rfl := one k e he
    exact e0
  · obtain ⟨e, he⟩ := hk
    obtain rfl := one k e he
    exact hf
  · refine H.redo E (fun k => k = 0) (fun _ => True) (S 0) (fun b hb => ⟨0, _, rfl, h0, .inr hb⟩) (fun b hb => (E.mine 0 _ b h0 hb).2.2) (fun k hk => ?_) (fun k e hk hA => absurd trivial hA) (fun k e hk _ => ⟨K.blk k e hk, K.cell k e hk, fun _ => K.own k e hk, K.inv k e hk, fun b hb => K.foot k e b hk hb⟩) (fun k e l f hk _ hl _ hne => ⟨fun _ => (K.sep k e l f hk hl hne).1, (K.sep k e l f hk hl hne).2⟩)
    rw [n0] at hk
    obtain rfl : k = 0 := by omega
    exact ⟨hf, e0⟩

/-! ### Closing a pack at a callee's end -/
def closeH (pc : Chunk) (m : Nat) (keep : List Nat) : List (Option Chunk) → Nat → List (Option Chunk)
  | [], _ => []
  | x :: r, i => (match Nat.beq i m with
    | true => some pc
    | false => match keep.any (Nat.beq i) with
      | true => x
      | false => none) :: closeH pc m keep r (i + 1)
theorem closeH_get {pc : Chunk} {m : Nat} {keep : List Nat} : ∀ {h : List (Option Chunk)} {i0 k : Nat} {d : Chunk}, (closeH pc m keep h i0)[k]? = some (some d) → (i0 + k = m ∧ d = pc) ∨ (i0 + k ≠ m ∧ i0 + k ∈ keep ∧ h[k]? = some (some d))
  | [], i0, k, d, hk => by simp [closeH] at hk
  | x :: r, i0, 0, d, hk => by
    simp only [closeH, List.getElem?_cons_zero, Option.some.injEq] at hk
    cases e : Nat.beq i0 m with
    | true =>
      rw [e] at hk
      exact .inl ⟨Nat.eq_of_beq_eq_true e, by simpa using hk.symm⟩
    | false =>
      rw [e] at hk
      simp only at hk
      cases e2 : keep.any (Nat.beq i0) with
      | true =>
        rw [e2] at hk
        refine .inr ⟨fun e3 => ?_, ?_, by simp only at hk; rw [hk]; rfl⟩
        · have : i0 = m := e3
          rw [this, Nat.beq_refl] at e; cases e
        · rw [List.any_eq_true] at e2
          obtain ⟨y, hy, he⟩ := e2
          have := Nat.eq_of_beq_eq_true he
          show i0 ∈ keep
          rw [this]; exact hy
      | false => rw [e2] at hk; cases hk
  | x :: r, i0, k + 1, d, hk => by
    have := closeH_get (h := r) (i0 := i0 + 1) (k := k) (d := d) (by simpa [closeH] using hk)
    rw [show i0 + (k + 1) = i0 + 1 + k from by omega]
    rcases this with h1 | ⟨h1, h2, h3⟩
    · exact .inl h1
    · exact .inr ⟨h1, h2, by simpa using h3⟩
theorem closeH_fil {pc : Chunk} {m : Nat} {keep : List Nat} : ∀ {h : List (Option Chunk)} {i0 k : Nat}, k < h.length → (i0 + k = m ∨ (i0 + k ∈ keep ∧ Fil h k)) → Fil (closeH pc m keep h i0) k
  | [], i0, k, hl, _ => by simp at hl
  | x :: r, i0, 0, _, hk => by
    simp only [closeH, Fil, List.getElem?_cons_zero]
    cases e : Nat.beq i0 m with
    | true => exact ⟨pc, rfl⟩
    | false =>
      rcases hk with hk | ⟨hk, hf⟩
      · have hk : i0 = m := hk
        rw [hk, Nat.beq_refl] at e; cases e
      · have : keep.any (Nat.beq i0) = true := List.any_eq_true.2 ⟨i0, hk, Nat.beq_refl _⟩
        simp only [this]
        obtain ⟨c, hc⟩ := hf
        exact ⟨c, by simpa using hc⟩
  | x :: r, i0, k + 1, hl, hk => by
    obtain ⟨c, hc⟩ := closeH_fil (pc := pc) (m := m) (keep := keep) (h := r) (i0 := i0 + 1) (k := k) (by simpa using hl) (by
      rw [show i0 + 1 + k = i0 + (k + 1) from by omega]
      exact hk.imp id fun ⟨h1, c, h2⟩ => ⟨h1, c, by simpa using h2⟩)
    exact ⟨c, by simpa [closeH] using hc⟩
/-- What the stretches of a pack are at the callee's end: k with the pack, i with the callee. -/
def PackFrom (ix : List (Nat × Nat)) (h hp : List (Option Chunk)) : Prop :=
  ∀ (k : Nat) (d : Chunk), hp[k]? = some (some d) → ∃ i c, ixK ix k = some i ∧ h[i]? = some (some c) ∧ c.own = true ∧ d.n ≤ c.n ∧ (∀ j, j < d.n → Re1 ix (c.f j) (d.f j)) ∧ (d.x = Ext.none ∨ d.x = c.x) ∧ (0 < c.n ∨ Selfish c.x)
def packB : List (Option Chunk) → List (Nat × Nat) → Bool
  | _, [] => true
  | hp, (k, i) :: r => filB hp k && packB hp r
theorem packB_out {hp : List (Option Chunk)} : ∀ {ix : List (Nat × Nat)}, packB hp ix = true → ∀ k i, (k, i) ∈ ix → Fil hp k
  | (a, b) :: r, h, k, i, hm => by
    simp only [packB, Bool.and_eq_true] at h
    rcases List.mem_cons.1 hm with e | hm
    · simp only [Prod.mk.injEq] at e
      obtain ⟨rfl, rfl⟩ := e
      exact filB_iff.1 h.1
    · exact packB_out h.2 k i hm
/-- No number stands twice, neither on the left nor on the right. -/
def ixOne : List (Nat × Nat) → Bool
  | [] => true
  | (k, i) :: r => (r.all fun p => !Nat.beq p.1 k && !Nat.beq p.2 i) && ixOne r
theorem ixOne_out : ∀ {ix : List (Nat × Nat)}, ixOne ix = true → ∀ k i k' i', (k, i) ∈ ix → (k', i') ∈ ix → (k = k' ∨ i = i') → k = k' ∧ i = i'
  | (a, b) :: r, h, k, i, k', i', h1, h2, he => by
    simp only [ixOne, Bool.and_eq_true, List.all_eq_true] at h
    have key : ∀ x y, (x, y) ∈ r → x ≠ a ∧ y ≠ b := fun x y hm => by
      have := h.1 (x, y) hm
      simp only [Bool.not_eq_true'] at this
      exact ⟨fun e => by subst e; simp at this, fun e => by subst e; simp at this⟩
    rcases List.mem_cons.1 h1 with e1 | h1 <;> rcases List.mem_cons.1 h2 with e2 | h2
    · simp only [Prod.mk.injEq] at e1 e2; omega
    · simp only [Prod.mk.injEq] at e1
      have := key k' i' h2; omega
    · simp only [Prod.mk.injEq] at e2
      have := key k i h1; omega
    · exact ixOne_out h.2 k i k' i' h1 h2 he
theorem closeN {B : Type} {ok : B → Prop} {hB : B → List (Option Chunk)} {ss : List Piece} {h : List (Option Chunk)} {v : Value} {K : Value → List (Option Chunk) → Prop} (β : B) (m : Nat) (ix : List (Nat × Nat)) (keep : List Nat) (hpc : ∀ k i, (k, i) ∈ ix → i < ss.length → ∃ s, ss[i]? = some s ∧ s.e.x ≠ Ext.none ∧ Selfish s.e.x) (hbs : ∀ i, i < ss.length → i = m ∨ i ∈ keep) (hok : ok β) (h00 : ixK ix 0 = some m) (hf0 : Fil (hB β) 0) (hone : ixOne ix = true) (hpb : packB (hB β) ix = true)
    (hpk : PackFrom ix h (hB β)) (hkk : ∀ k ∈ keep, ∀ l i, (l, i) ∈ ix → k ≠ i) (hkd : ∀ k ∈ keep, ∀ (d : Chunk), h[k]? = some (some d) → ∀ j, j < d.n → Safe1 (closeH (packC ok hB) m keep h 0) (d.f j))
    (hv : ∀ ρ ρ', AgreeOn (Fil (closeH (packC ok hB) m keep h 0)) ρ ρ' → den ρ' v = den ρ v) (hlt : m < h.length) (kk : K v (closeH (packC ok hB) m keep h 0)) : N (EndN ss h v K) := N.mk fun X ρ w x T H hd => by
  obtain ⟨S, E⟩ := H.ext
  have fil0 : Fil (closeH (packC ok hB) m keep h 0) m := closeH_fil hlt (.inl (Nat.zero_add m))
  have inv : ∀ k d, (hB β)[k]? = some (some d) → ∃ i c, (k, i) ∈ ix ∧ h[i]? = some (some c) ∧ c.own = true ∧ d.n ≤ c.n ∧ (∀ j, j < d.n → Re1 ix (c.f j) (d.f j)) ∧ (d.x = Ext.none ∨ d.x = c.x) ∧ (0 < c.n ∨ Selfish c.x) := fun k d hk => by
    obtain ⟨i, c, h1, h2⟩ := hpk k d hk
    exact ⟨i, c, ixK_mem h1, h2⟩
  have ofix : ∀ k i, (k, i) ∈ ix → ∃ d, (hB β)[k]? = some (some d) := fun k i hm => packB_out hpb k i hm
  have act : ∀ k i, (k, i) ∈ ix → ∃ d c, (hB β)[k]? = some (some d) ∧ h[i]? = some (some c) ∧ c.own = true ∧ d.n ≤ c.n ∧ (∀ j, j < d.n → Re1 ix (c.f j) (d.f j)) ∧ (d.x = Ext.none ∨ d.x = c.x) ∧ (0 < c.n ∨ Selfish c.x) := fun k i hm => by
    obtain ⟨d, hd⟩ := ofix k i hm
    obtain ⟨i', c, hm', h2⟩ := inv k d hd
    obtain rfl := (ixOne_out hone k i k i' hm hm' (.inl rfl)).2
    exact ⟨d, c, hd, h2⟩
  have mayB : ∀ k i, (k, i) ∈ ix → May X (ρ i).1 := fun k i hm => by
    obtain ⟨d, c, _, hc, ho, _, _, _, h3⟩ := act k i hm
    rcases h3 with h3 | h3
    · by_cases e : i < ss.length
      · obtain ⟨s, hs, hx, hsf⟩ := hpc k i hm e
        exact T.mayX H hs hx hsf
      · exact T.may H hc ho h3 (by omega)
    · exact (E.mine i c _ hc (h3 _ _ _ (E.inv i c hc))).2.2
  let ρp : Nat → Nat × Nat := fun k => match ixK ix k with | some i => ρ i | none => (0, 0)
  let Tp : Nat → Nat → Prop := fun k b => ∃ i d, (k, i) ∈ ix ∧ (hB β)[k]? = some (some d) ∧ d.x ≠ Ext.none ∧ S i b
  have ixKof : ∀ k i, (k, i) ∈ ix → ixK ix k = some i := fun k i hm => by
    obtain ⟨d, hd⟩ := ofix k i hm
    obtain ⟨i', c, h1, _⟩ := hpk k d hd
    rw [(ixOne_out hone k i k i' hm (ixK_mem h1) (.inl rfl)).2]; exact h1
  have ρp_eq : ∀ k i, (k, i) ∈ ix → ρp k = ρ i := fun k i hm => by
    show (match ixK ix k with | some i => ρ i | none => (0, 0)) = ρ i
    rw [ixKof k i hm]
  let F : Nat → Prop := fun b => ∃ k i, (k, i) ∈ ix ∧ (b = (ρ i).1 ∨ Tp k b)
  have Tp_eq : ∀ k i d, (k, i) ∈ ix → (hB β)[k]? = some (some d) → d.x ≠ Ext.none → Tp k = S i := fun k i d hm hd hne => by
    funext b
    refine propext ⟨?_, fun hb => ⟨i, d, hm, hd, hne, hb⟩⟩
    rintro ⟨i', _, hm', _, _, hb⟩
    rw [(ixOne_out hone k i k i' hm hm' (.inl rfl)).2]; exact hb
  have TpS : ∀ k i b, (k, i) ∈ ix → Tp k b → S i b := fun k i b hm hb => by
    obtain ⟨i', _, hm', _, _, hb'⟩ := hb
    rw [(ixOne_out hone k i k i' hm hm' (.inl rfl)).2]; exact hb'
  have K1 : PackOK ρp (hB β) w F Tp := by
    refine ⟨fun k d hk => ?_, fun k d hk j hj => ?_, fun k d hk j hj => ?_, fun k d hk => ?_, fun k d b hk hb => ?_, fun k d l e hk hl hne => ?_⟩
    · obtain ⟨i, c, hm, _⟩ := inv k d hk
      exact ⟨k, i, hm, .inl (by rw [ρp_eq k i hm])⟩
    · obtain ⟨i, c, hm, hc, ho, hn, hr, _⟩ := inv k d hk
      obtain ⟨y, hy, hdy⟩ := H.cell i c hc j (Nat.lt_of_lt_of_le hj hn)
      rw [ρp_eq k i hm]
      refine ⟨y, hy, fun r hrr => ?_⟩
      rw [← (hr j hj).den (r := ρ) (r' := r) (fun k' i' hm' => by
        obtain ⟨d', hd'⟩ := ofix k' i' hm'
        rw [hrr k' ⟨d', hd'⟩, ρp_eq k' i' hm'])]
      exact hdy.self
    · obtain ⟨i, c, hm, hc, ho, hn, _⟩ := inv k d hk
      rw [ρp_eq k i hm]
      exact (H.own i c hc ho j (Nat.lt_of_lt_of_le hj hn)).1
    · obtain ⟨i, c, hm, hc, ho, hn, _, hx', _⟩ := inv k d hk
      by_cases en : d.x = Ext.none
      · rw [en]
        rintro b ⟨i', d', _, hd', hne, _⟩
        rw [hk] at hd'
        obtain rfl : d = d' := by simpa using hd'
        exact hne en
      · rw [Tp_eq k i d hm hk en, ρp_eq k i hm]
        rcases hx' with e | e
        · exact absurd e en
        · rw [e]; exact E.inv i c hc
    · obtain ⟨i, c, hm, hc, ho, hn, _⟩ := inv k d hk
      refine ⟨⟨k, i, hm, .inr hb⟩, ?_⟩
      have := (E.mine i c b hc (TpS k i b hm hb)).1
      rw [ρp_eq k i hm]; omega
    · obtain ⟨i, c, hm, hc, ho, _⟩ := inv k d hk
      obtain ⟨i2, c2, hm2, hc2, ho2, _⟩ := inv l e hl
      have hii : i ≠ i2 := fun ei => hne (ixOne_out hone k i l i2 hm hm2 (.inr ei)).1
      refine ⟨by rw [ρp_eq k i hm, ρp_eq l i2 hm2]; exact H.sep i c i2 c2 hc ho hc2 hii, fun b hb => ?_⟩
      obtain ⟨a1, a2⟩ := E.apart i c b i2 c2 hc (TpS k i b hm hb) hc2 (Ne.symm hii)
      exact ⟨by rw [ρp_eq l i2 hm2]; exact a1, fun hb2 => a2 (TpS l i2 b hm2 hb2)⟩
  have m00 := ixK_mem h00
  have H' : HOK X ρ (closeH (packC ok hB) m keep h 0) w := by
    refine H.redo (T := fun k b => k = m ∧ F b) E (fun i => ∃ k, (k, i) ∈ ix) (fun k => k = m) F (fun b hb => ?_) (fun b hb => ?_) (fun i hi => ?_) (fun k d hk hA => ?_) (fun k d hk hA => ?_) (fun k d l e hk hA hl hB' hne => ?_)
    · obtain ⟨k, i, hm, hb⟩ := hb
      obtain ⟨d, c, hd, hc, ho, _⟩ := act k i hm
      rcases hb with hb | hb
      · exact ⟨i, c, ⟨k, hm⟩, hc, .inl ⟨ho, hb⟩⟩
      · exact ⟨i, c, ⟨k, hm⟩, hc, .inr (TpS k i b hm hb)⟩
    · obtain ⟨k, i, hm, hb⟩ := hb
      rcases hb with rfl | hb
      · exact mayB k i hm
      · obtain ⟨d, c, hd, hc, _⟩ := act k i hm
        exact (E.mine i c b hc (TpS k i b hm hb)).2.2
    · have hi : i < ss.length := by have := T.n0; omega
      rcases hbs i hi with rfl | h1
      · exact ⟨fil0, rfl⟩
      · have hf := (H.base i (by have := T.n0; omega)).1
        obtain ⟨c, hc⟩ := hf
        exact ⟨closeH_fil (List.getElem?_eq_some_iff.1 hc).1 (.inr ⟨by rw [Nat.zero_add]; exact h1, c, hc⟩), rfl⟩
    · rcases closeH_get hk with ⟨h1, _⟩ | ⟨h1, h2, h3⟩
      · exact absurd (by omega) hA
      · rw [Nat.zero_add] at h1 h2
        refine ⟨fun ⟨l, hm⟩ => hkk k h2 l k hm rfl, rfl, h3, fun j hj y hy r hrr => ?_⟩
        rw [(hkd k h2 d h3 j hj).inScope ρ r hrr]
        exact hy.self
    · subst hA
      rcases closeH_get hk with ⟨_, rfl⟩ | ⟨h1, _⟩
      · refine ⟨⟨0, k, m00, .inl rfl⟩, fun j hj => absurd hj (Nat.not_lt_zero j), fun _ j hj => absurd hj (Nat.not_lt_zero j), ⟨⟨rfl, 0, k, m00, .inl rfl⟩, β, hok, ρp, Tp, ρp_eq 0 k m00, hf0, ?_⟩, fun b hb => ⟨hb.2, .inl rfl⟩⟩
        have : (fun b => k = k ∧ F b) = F := by funext b; exact propext ⟨fun h => h.2, fun h => ⟨rfl, h⟩⟩
        rw [this]; exact K1
      · exact absurd (by omega) h1
    · exact absurd (hA.trans hB'.symm) hne
  refine ⟨v, _, ρ, H', fun r hrr => ?_, kk⟩
  rw [hv ρ r hrr]; exact hd.self
end Go.Proofs.YtijiggkhnpmaiaaGreat.Sx


/-
  Families of stretches at real addresses: one is taken out, one is laid in; callees that are handed real addresses.
-/
set_option linter.unusedVariables false
set_option linter.unusedSimpArgs false
namespace Go.Proofs.YtijiggkhnpmaiaaGreat.Sx
open Go Go.RowKit

/-- A value that is the same whatever the numbers stand for. -/
theorem plain1_Den1 {F : Nat → Prop} {ρ : Nat → Nat × Nat} {v : Value} (h : plain1 v = true) : Den1 F ρ v v := Den1.plain h
/-- One of a family is taken out. -/
theorem HOK.famOut {α : Type} {X : Ctx} {ρ : Nat → Nat × Nat} {h : List (Option Chunk)} {w : World} {i k n : Nat} {o : Bool} {m : Nat} {ps : List (Nat × Nat × Value)} {enc : α → Nat → Value} {F F' : List ((Nat × Nat) × α)} {q : Nat × Nat} {a : α} {e : Chunk}
    (H : HOK X ρ h w) (hm : 0 < m) (hi : h[i]? = some (some (@Chunk.mk (famX n enc F) true m ps))) (hk : h[k]? = some none) (hmay : May X (ρ i).1) (hF : F.Perm ((q, a) :: F')) (hex : e.x = atX q) (hen : e.n = n) (hef : ∀ j, j < n → e.f j = enc a j) (hpl : ∀ j, j < n → plain1 (enc a j) = true) :
    ∃ ρ', AgreeOn (Fil h) ρ ρ' ∧ HOK X ρ' ((h.set i (some (@Chunk.mk (famX n enc F') true m ps))).set k (some e)) w := by
  obtain ⟨S, E⟩ := H.ext
  have hil := (List.getElem?_eq_some_iff.1 hi).1
  have hkl := (List.getElem?_eq_some_iff.1 hk).1
  have hik : i ≠ k := fun e => by rw [e, hk] at hi; cases hi
  have nf : ¬ Fil h k := fun ⟨d, hd⟩ => by rw [hk] at hd; cases hd
  have FO : FamOK n enc F (S i) w := E.inv i _ hi
  have memF : ∀ x, x ∈ F ↔ x ∈ (q, a) :: F' := fun x => hF.mem_iff
  have qF : (q, a) ∈ F := (memF _).2 (by simp)
  have hS : S i q.1 := (FO.dom _).2 ⟨_, qF, rfl⟩
  have ndF : (((q, a) :: F').map (·.1.1)).Nodup := (hF.map _).nodup_iff.1 FO.nodup
  simp only [List.map_cons, List.nodup_cons] at ndF
  let ρ' : Nat → Nat × Nat := fun j => if j = k then q else ρ j
  have ρk : ρ' k = q := if_pos rfl
  have ρo : ∀ j, j ≠ k → ρ' j = ρ j := fun j hj => if_neg hj
  have hag : AgreeOn (Fil h) ρ ρ' := fun j hj => ρo j fun e => nf (e ▸ hj)
  let hh := (h.set i (some (@Chunk.mk (famX n enc F') true m ps))).set k (some e)
  have get : ∀ j d, hh[j]? = some (some d) → (j = k ∧ d = e) ∨ (j = i ∧ d = @Chunk.mk (famX n enc F') true m ps) ∨ (j ≠ i ∧ j ≠ k ∧ h[j]? = some (some d)) := fun j d hj => by
    by_cases ej : k = j
    · subst ej
      rw [List.getElem?_set_self (by simpa using hkl)] at hj
      exact .inl ⟨rfl, by simpa using hj.symm⟩
    · rw [List.getElem?_set_ne ej] at hj
      by_cases ei : i = j
      · subst ei
        rw [List.getElem?_set_self hil] at hj
        exact .inr (.inl ⟨rfl, by simpa using hj.symm⟩)
      · rw [List.getElem?_set_ne ei] at hj
        exact .inr (.inr ⟨fun e => ei e.symm, fun e => ej e.symm, hj⟩)
  have fil : ∀ j, Fil h j → Fil hh j := fun j hj => by
    obtain ⟨d, hd⟩ := hj
    by_cases ej : k = j
    · exact ⟨e, by subst ej; rw [List.getElem?_set_self (by simpa using hkl)]⟩
    · by_cases ei : i = j
      · exact ⟨_, by subst ei; rw [List.getElem?_set_ne ej, List.getElem?_set_self hil]⟩
      · exact ⟨d, by rw [List.getElem?_set_ne ej, List.getElem?_set_ne ei]; exact hd⟩
  have qne : q.1 ≠ (ρ i).1 := by
    rcases (E.mine i _ _ hi hS).1 with h0 | h0
    · have h0 : m = 0 := h0
      omega
    · exact h0
  refine ⟨ρ', hag, ?_⟩
  refine H.redo (T := fun j b => j = i ∧ S i b ∧ b ≠ q.1) E (fun j => j = i) (fun j => j = i ∨ j = k) (fun b => b = (ρ i).1 ∨ S i b) (fun b hb => ⟨i, _, rfl, hi, hb.imp (fun h => ⟨rfl, h⟩) id⟩) (fun b hb => ?_) (fun j hj => ?_) (fun j d hj hA => ?_) (fun j d hj hA => ?_) (fun j d l f hj hA hl hB hne => ?_)
  · rcases hb with rfl | hb
    · exact hmay
    · exact (E.mine i _ b hi hb).2.2
  · obtain ⟨hf, _⟩ := H.base j hj
    exact ⟨fil j hf, hag j hf⟩
  · rcases get j d hj with ⟨rfl, _⟩ | ⟨rfl, _⟩ | ⟨h1, h2, h3⟩
    · exact absurd (.inr rfl) hA
    · exact absurd (.inl rfl) hA
    · exact ⟨h1, ρo j h2, h3, fun l _ x hx => hx.more hag fil⟩
  · rcases get j d hj with ⟨rfl, rfl⟩ | ⟨rfl, rfl⟩ | ⟨h1, h2, _⟩
    · refine ⟨by rw [ρk]; exact .inr hS, fun l hl => ?_, fun _ l hl => ?_, ?_, fun b hb => absurd hb.1 (Ne.symm hik)⟩
      · rw [hen] at hl
        rw [ρk]
        exact ⟨_, (FO.cell _ qF l hl).1, by rw [hef l hl]; exact Den1.plain (hpl l hl)⟩
      · rw [hen] at hl
        rw [ρk]
        exact (FO.cell _ qF l hl).2
      · rw [hex]
        exact ⟨ρk, fun b hb => hik hb.1.symm⟩
    · refine ⟨by rw [ρo j hik]; exact .inl rfl, fun l hl => ?_, fun _ l hl => ?_, ?_, fun b hb => ⟨.inr hb.2.1, ?_⟩⟩
      · rw [ρo j hik]
        obtain ⟨x, hx, hd⟩ := H.cell j _ hi l hl
        exact ⟨x, hx, hd.more hag fil⟩
      · rw [ρo j hik]
        exact (H.own j _ hi rfl l hl).1
      · show FamOK n enc F' (fun b => j = j ∧ S j b ∧ b ≠ q.1) w
        refine ⟨fun b => ⟨fun hb => ?_, fun ⟨x, hx, hb⟩ => ⟨rfl, (FO.dom b).2 ⟨x, (memF x).2 (by simp [hx]), hb⟩, fun e => ndF.1 (by rw [← e, ← hb]; exact List.mem_map.2 ⟨x, hx, rfl⟩)⟩⟩, ndF.2, fun x hx => FO.cell x ((memF x).2 (by simp [hx]))⟩
        obtain ⟨x, hx, hxb⟩ := (FO.dom b).1 hb.2.1
        rcases List.mem_cons.1 ((memF x).1 hx) with rfl | hx
        · exact absurd hxb.symm hb.2.2
        · exact ⟨x, hx, hxb⟩
      · rw [ρo j hik]
        exact (E.mine j _ b hi hb.2.1).1
    · exact absurd hA (by rintro (rfl | rfl) <;> contradiction)
  · have two : ∀ x, (x = i ∨ x = k) → (x = i ∧ ρ' x = ρ i) ∨ (x = k ∧ ρ' x = q) := fun x hx => by
      rcases hx with rfl | rfl
      · exact .inl ⟨rfl, ρo _ hik⟩
      · exact .inr ⟨rfl, ρk⟩
    rcases two j hA with ⟨rfl, e1⟩ | ⟨rfl, e1⟩ <;> rcases two l hB with ⟨rfl, e2⟩ | ⟨rfl, e2⟩
    · exact absurd rfl hne
    · exact ⟨fun _ => by rw [e1, e2]; exact fun e => qne e.symm, fun b hb => ⟨by rw [e2]; exact fun e => hb.2.2 e.symm, fun h => hik h.1.symm⟩⟩
    · exact ⟨fun _ => by rw [e1, e2]; exact qne, fun b hb => absurd hb.1 (Ne.symm hik)⟩
    · exact absurd rfl hne
/-- A stretch is laid into a family. -/
theorem HOK.famIn {α : Type} {X : Ctx} {ρ : Nat → Nat × Nat} {h : List (Option Chunk)} {w : World} {i k n : Nat} {m : Nat} {ps : List (Nat × Nat × Value)} {enc : α → Nat → Value} {F : List ((Nat × Nat) × α)} {q : Nat × Nat} {a : α} {e : Chunk}
    (H : HOK X ρ h w) (hm : 0 < m) (hn : 0 < n) (hi : h[i]? = some (some (@Chunk.mk (famX n enc F) true m ps))) (hk : h[k]? = some (some e)) (hik : i ≠ k) (hkb : X.n0 ≤ k) (hmay : May X (ρ i).1) (hmk : May X (ρ k).1) (hex : e.x = atX q) (heo : e.own = true) (hen : n ≤ e.n) (hef : ∀ j, j < n → e.f j = enc a j) (hpl : ∀ j, j < n → plain1 (enc a j) = true)
    (hsc : ∀ (l : Nat) (d : Chunk), l ≠ k → h[l]? = some (some d) → ∀ j, j < d.n → ∀ ρ ρ', (∀ l, l ≠ k → ρ' l = ρ l) → den1 ρ' (d.f j) = den1 ρ (d.f j)) :
    HOK X ρ ((h.set i (some (@Chunk.mk (famX n enc ((q, a) :: F)) true m ps))).set k none) w := by
  obtain ⟨S, E⟩ := H.ext
  have hil := (List.getElem?_eq_some_iff.1 hi).1
  have hkl := (List.getElem?_eq_some_iff.1 hk).1
  have FO : FamOK n enc F (S i) w := E.inv i _ hi
  obtain ⟨ρk, Sk⟩ : ρ k = q ∧ ∀ b, ¬ S k b := by have := E.inv k e hk; rw [hex] at this; exact this
  let hh := (h.set i (some (@Chunk.mk (famX n enc ((q, a) :: F)) true m ps))).set k none
  have get : ∀ j d, hh[j]? = some (some d) → (j = i ∧ d = @Chunk.mk (famX n enc ((q, a) :: F)) true m ps) ∨ (j ≠ i ∧ j ≠ k ∧ h[j]? = some (some d)) := fun j d hj => by
    by_cases ej : k = j
    · subst ej
      rw [List.getElem?_set_self (by simpa using hkl)] at hj
      cases hj
    · rw [List.getElem?_set_ne ej] at hj
      by_cases ei : i = j
      · subst ei
        rw [List.getElem?_set_self hil] at hj
        exact .inl ⟨rfl, by simpa using hj.symm⟩
      · rw [List.getElem?_set_ne ei] at hj
        exact .inr ⟨fun e => ei e.symm, fun e => ej e.symm, hj⟩
  have fil : ∀ j, j ≠ k → Fil h j → Fil hh j := fun j hjk hj => by
    obtain ⟨d, hd⟩ := hj
    by_cases ei : i = j
    · exact ⟨_, by subst ei; rw [List.getElem?_set_ne (Ne.symm hjk), List.getElem?_set_self hil]⟩
    · exact ⟨d, by rw [List.getElem?_set_ne (Ne.symm hjk), List.getElem?_set_ne ei]; exact hd⟩
  have qS : ¬ S i q.1 := fun hs => by
    have := (E.apart i _ _ k e hi hs hk (Ne.symm hik)).1
    rw [ρk] at this; exact this rfl
  have qi : q.1 ≠ (ρ i).1 := by
    have := H.sep k e i _ hk heo hi (Ne.symm hik)
    rw [ρk] at this; exact this
  -- what is known of a cell is known with any number for k
  have less : ∀ l d, l ≠ k → h[l]? = some (some d) → ∀ j, j < d.n → ∀ x, Den1 (Fil h) ρ (d.f j) x → Den1 (Fil hh) ρ (d.f j) x := fun l d hlk hd j hj x hx r hr => by
    let r' : Nat → Nat × Nat := fun i => if i = k then ρ k else if filB h i then r i else ρ i
    have e1 : den1 r' (d.f j) = x := hx r' fun i hf => by
      show (if i = k then ρ k else if filB h i then r i else ρ i) = ρ i
      by_cases ek : i = k
      · rw [if_pos ek, ek]
      · rw [if_neg ek, if_pos (filB_iff.2 hf)]
        exact hr i (fil i ek hf)
    let r2 : Nat → Nat × Nat := fun i => if i = k then r k else r' i
    have e2 : den1 r2 (d.f j) = den1 r' (d.f j) := hsc l d hlk hd j hj r' r2 fun i hi => if_neg hi
    have e3 : den1 r2 (d.f j) = x := e2.trans e1
    -- outside of what is known the numbers do not matter
    let r3 : Nat → Nat × Nat := fun i => if i = k then ρ k else r i
    have e4 : den1 r3 (d.f j) = den1 r (d.f j) := hsc l d hlk hd j hj r r3 fun i hi => if_neg hi
    have e5 : den1 r3 (d.f j) = x := hx r3 fun i hf => by
      show (if i = k then ρ k else r i) = ρ i
      by_cases ek : i = k
      · rw [if_pos ek, ek]
      · rw [if_neg ek]; exact hr i (fil i ek hf)
    exact e4.symm.trans e5
  refine H.redo (T := fun j b => j = i ∧ (S i b ∨ b = q.1)) E (fun j => j = i ∨ j = k) (fun j => j = i) (fun b => b = (ρ i).1 ∨ b = q.1 ∨ S i b) (fun b hb => ?_) (fun b hb => ?_) (fun j hj => ?_) (fun j d hj hA => ?_) (fun j d hj hA => ?_) (fun j d l f hj hA hl hB hne => absurd (hA.trans hB.symm) hne)
  · rcases hb with hb | hb | hb
    · exact ⟨i, _, .inl rfl, hi, .inl ⟨rfl, hb⟩⟩
    · exact ⟨k, e, .inr rfl, hk, .inl ⟨heo, by rw [ρk]; exact hb⟩⟩
    · exact ⟨i, _, .inl rfl, hi, .inr hb⟩
  · rcases hb with rfl | rfl | hb
    · exact hmay
    · rw [ρk] at hmk; exact hmk
    · exact (E.mine i _ b hi hb).2.2
  · exact ⟨fil j (by omega) (H.base j hj).1, rfl⟩
  · rcases get j d hj with ⟨rfl, _⟩ | ⟨h1, h2, h3⟩
    · exact absurd rfl hA
    · exact ⟨fun h => by rcases h with h | h; exact h1 h; exact h2 h, rfl, h3, fun l hl x hx => less j d h2 h3 l hl x hx⟩
  · rcases get j d hj with ⟨rfl, rfl⟩ | ⟨h1, _⟩
    · refine ⟨.inl rfl, fun l hl => ?_, fun _ l hl => (H.own j _ hi rfl l hl).1, ?_, fun b hb => ⟨?_, ?_⟩⟩
      · obtain ⟨x, hx, hd⟩ := H.cell j _ hi l hl
        exact ⟨x, hx, less j _ hik hi l hl x hd⟩
      · show FamOK n enc ((q, a) :: F) (fun b => j = j ∧ (S j b ∨ b = q.1)) w
        refine ⟨fun b => ⟨fun hb => ?_, fun ⟨x, hx, hb⟩ => ⟨rfl, ?_⟩⟩, ?_, fun x hx l hl => ?_⟩
        · rcases hb.2 with hb | hb
          · obtain ⟨x, hx, hxb⟩ := (FO.dom b).1 hb
            exact ⟨x, List.mem_cons_of_mem _ hx, hxb⟩
          · exact ⟨(q, a), by simp, hb.symm⟩
        · rcases List.mem_cons.1 hx with rfl | hx
          · exact .inr hb.symm
          · exact .inl ((FO.dom b).2 ⟨x, hx, hb⟩)
        · simp only [List.map_cons, List.nodup_cons]
          refine ⟨fun hmem => ?_, FO.nodup⟩
          obtain ⟨x, hx, hxb⟩ := List.mem_map.1 hmem
          exact qS ((FO.dom _).2 ⟨x, hx, hxb⟩)
        · rcases List.mem_cons.1 hx with rfl | hx
          · obtain ⟨y, hy, hdy⟩ := H.cell k e hk l (Nat.lt_of_lt_of_le hl hen)
            rw [hef l hl] at hdy
            have := den1_any (hpl l hl) hdy
            subst this
            rw [ρk] at hy
            have h2 := (H.own k e hk heo l (Nat.lt_of_lt_of_le hl hen)).1
            rw [ρk] at h2
            exact ⟨hy, h2⟩
          · exact FO.cell x hx l hl
      · rcases hb.2 with hb | hb
        · exact .inr (.inr hb)
        · exact .inr (.inl hb)
      · rcases hb.2 with hb | rfl
        · exact (E.mine j _ b hi hb).1
        · exact .inr qi
    · exact absurd hA h1

/-! ### Callees that are handed real addresses -/
inductive AtRe (q : Nat × Nat) (k : Nat) : Value → Value → Prop
  | same (v : Value) : AtRe q k v v
  | ptr {s : Nat} : AtRe q k (realP q) (.pointer (some ⟨k, 0, some s⟩))
theorem all2_at {F : Nat → Prop} {ρ : Nat → Nat × Nat} {q : Nat × Nat} {k : Nat} (hF : F k) (hρ : ρ k = q) : ∀ {vs vs' xs : List Value}, All2 (AtRe q k) vs vs' → All2 (Den F ρ) vs xs → All2 (Den F ρ) vs' xs
  | [], [], xs, _, h => h
  | [], _ :: _, _, h, _ => h.elim
  | _ :: _, [], _, h, _ => h.elim
  | _ :: _, _ :: _, [], _, h => h.elim
  | v :: vs, v' :: vs', x :: xs, h, h' => by
    refine ⟨?_, all2_at hF hρ h.2 h'.2⟩
    have h1 := h.1
    cases h1 with
    | same => exact h'.1
    | ptr =>
      intro r hr
      have e1 : x = realP q := h'.1.self.symm.trans realP_den
      have e2 : r k = q := (hr k hF).trans hρ
      rw [e1]
      simp [den, den2, den1, den0, denA, e2, realP]
theorem call_at {P : Program} {g : FuncId} {vs : List Value} {h : List (Option Chunk)} {v : Value} {ms : List (Nat × Chunk)} {rh : List Nat} {q : Nat × Nat} {k : Nat} {c : Chunk} (vs' : List Value) (hk : h[k]? = some (some c)) (hx : c.x = atX q) (hvs : All2 (AtRe q k) vs vs') (hin : k ∈ rh ∨ ∃ d, (k, d) ∈ ms) (hc : CallOK P g vs' h v ms rh) : CallOK P g vs h v ms rh :=
  fun h₂ hr hm X ρ w xs H hxs => by
    have hk2 : h₂[k]? = some (some c) := by
      rcases hin with h1 | ⟨d, h1⟩
      · exact (hr k h1).trans hk
      · exact (hm _ h1).trans hk
    obtain ⟨S, E⟩ := H.ext
    have hρ : ρ k = q := by have := E.inv k c hk2; rw [hx] at this; exact this.1
    exact hc h₂ hr hm X ρ w xs H (all2_at ⟨c, hk2⟩ hρ hvs hxs)
/-- A stretch that bears nothing is told to bear what is nothing more. -/
theorem HOK.setX {X : Ctx} {ρ : Nat → Nat × Nat} {h : List (Option Chunk)} {w : World} {k n : Nat} {o : Bool} {ps : List (Nat × Nat × Value)} (H : HOK X ρ h w) (hk : h[k]? = some (some (@Chunk.mk Ext.none o n ps))) (y : Ext) (hy : ∀ S, (∀ b, ¬ S b) → y.inv (ρ k) S w) : HOK X ρ (h.set k (some (@Chunk.mk y o n ps))) w := by
  obtain ⟨S, E⟩ := H.ext
  have hkl := (List.getElem?_eq_some_iff.1 hk).1
  have get : ∀ j d, (h.set k (some (@Chunk.mk y o n ps)))[j]? = some (some d) → ∃ c : Chunk, h[j]? = some (some c) ∧ d.own = c.own ∧ d.n = c.n ∧ d.ps = c.ps ∧ (d.x = c.x ∨ (j = k ∧ d.x = y ∧ c.x = Ext.none)) := fun j d hj => by
    by_cases ej : k = j
    · subst ej
      rw [List.getElem?_set_self hkl] at hj
      obtain rfl : _ = d := by simpa using hj
      exact ⟨_, hk, rfl, rfl, rfl, .inr ⟨rfl, rfl, rfl⟩⟩
    · rw [List.getElem?_set_ne ej] at hj
      exact ⟨d, hj, rfl, rfl, rfl, .inl rfl⟩
  have fil : ∀ j, Fil h j → Fil (h.set k (some (@Chunk.mk y o n ps))) j := fun j hj => hj.set
  refine ⟨H.evo, fun i hi => ⟨fil i (H.base i hi).1, (H.base i hi).2⟩, fun j d hj => ?_, fun j d hj l hl => ?_, fun j d hj ho l hl => ?_, fun j d l f hj ho hl hne => ?_, S, fun j d hj => ?_, fun j d b hj hb => ?_, fun j d b l f hj hb hl hne => ?_⟩
  · obtain ⟨c, hc, _⟩ := get j d hj; exact H.lt j c hc
  · obtain ⟨c, hc, _, e2, e3, _⟩ := get j d hj
    obtain ⟨x, hx, hd⟩ := H.cell j c hc l (by omega)
    refine ⟨x, hx, ?_⟩
    have : d.f l = c.f l := by unfold Chunk.f; rw [e3]
    rw [this]; exact hd.more (AgreeOn.refl _ _) fil
  · obtain ⟨c, hc, e1, e2, _⟩ := get j d hj
    exact H.own j c hc (by rw [← e1]; exact ho) l (by omega)
  · obtain ⟨c, hc, e1, _⟩ := get j d hj
    obtain ⟨c2, hc2, _⟩ := get l f hl
    exact H.sep j c l c2 hc (by rw [← e1]; exact ho) hc2 hne
  · obtain ⟨c, hc, _, _, _, e⟩ := get j d hj
    rcases e with e | ⟨rfl, e, e'⟩
    · rw [e]; exact E.inv j c hc
    · have := E.inv j c hc
      rw [e'] at this
      rw [e]; exact hy _ this
  · obtain ⟨c, hc, _, e2, _⟩ := get j d hj
    rw [e2]; exact E.mine j c b hc hb
  · obtain ⟨c, hc, _⟩ := get j d hj
    obtain ⟨c2, hc2, _⟩ := get l f hl
    exact E.apart j c b l c2 hc hb hc2 hne
/-- A new stretch's address, as it is. -/
theorem HOK.mark {X : Ctx} {ρ : Nat → Nat × Nat} {h : List (Option Chunk)} {w : World} {k n : Nat} {o : Bool} {ps : List (Nat × Nat × Value)} (H : HOK X ρ h w) (hk : h[k]? = some (some (@Chunk.mk Ext.none o n ps))) : HOK X ρ (h.set k (some (@Chunk.mk (atX (ρ k)) o n ps))) w :=
  H.setX hk _ fun S hS => ⟨rfl, hS⟩
/-- A stretch that bears nothing bears an empty family. -/
theorem HOK.famNil {α : Type} {X : Ctx} {ρ : Nat → Nat × Nat} {h : List (Option Chunk)} {w : World} {k n m : Nat} {o : Bool} {ps : List (Nat × Nat × Value)} {enc : α → Nat → Value} (H : HOK X ρ h w) (hk : h[k]? = some (some (@Chunk.mk Ext.none o n ps))) : HOK X ρ (h.set k (some (@Chunk.mk (famX m enc []) o n ps))) w :=
  H.setX hk _ fun S hS => ⟨fun b => ⟨fun hb => absurd hb (hS b), fun ⟨q, hq, _⟩ => by cases hq⟩, List.nodup_nil, fun q hq => by cases hq⟩
/-- The stretch lies at its block's beginning. -/
abbrev atZ : Ext where
  inv := fun p S _ => p.2 = 0 ∧ ∀ b, ¬ S b
  keep := fun h _ => h
theorem N_endFam {α : Type} {ss : List Piece} {h : List (Option Chunk)} {v : Value} {K : Value → List (Option Chunk) → Prop} {k n : Nat} {o : Bool} {ps : List (Nat × Nat × Value)} (m : Nat) (enc : α → Nat → Value) (hk : h[k]? = some (some (@Chunk.mk Ext.none o n ps))) (kk : N (EndN ss (h.set k (some (@Chunk.mk (famX m enc []) o n ps))) v K)) : N (EndN ss h v K) :=
  N.mk fun X ρ w x T H hd => N.out kk X ρ w x T (H.famNil hk) (hd.more (AgreeOn.refl _ _) fun j hj => hj.set)
/-- A new stretch's address is told as it is. -/
theorem N_endMark {ss : List Piece} {h : List (Option Chunk)} {v : Value} {K : Value → List (Option Chunk) → Prop} {k n : Nat} {o : Bool} {ps : List (Nat × Nat × Value)} (v' : Nat × Nat → Value) (hk : h[k]? = some (some (@Chunk.mk Ext.none o n ps))) (hv : ∀ q ρ, ρ k = q → den ρ v = den ρ (v' q)) (kk : ∀ q, N (EndN ss (h.set k (some (@Chunk.mk (atX q) o n ps))) (v' q) K)) : N (EndN ss h v K) :=
  N.mk fun X ρ w x T H hd => N.out (kk (ρ k)) X ρ w x T (H.mark hk) (fun r hr => by
    have h1 : AgreeOn (Fil h) ρ r := fun i hi => hr i hi.set
    rw [← hv (ρ k) r (h1 k ⟨_, hk⟩)]
    exact hd r h1)
/-- A stretch is laid into a family at a callee's end. -/
theorem N_endFamIn {α : Type} {ss : List Piece} {h : List (Option Chunk)} {v : Value} {K : Value → List (Option Chunk) → Prop} {i k n m : Nat} {ps : List (Nat × Nat × Value)} {enc : α → Nat → Value} {F : List ((Nat × Nat) × α)} {q : Nat × Nat} {e : Chunk} (a : α) (hm : 0 < m) (hn : 0 < n) (hi : h[i]? = some (some (@Chunk.mk (famX n enc F) true m ps))) (hk : h[k]? = some (some e)) (hik : i ≠ k) (hkb : ss.length ≤ k)
    (hib : i < ss.length → ∃ s, ss[i]? = some s ∧ s.e.x ≠ Ext.none ∧ Selfish s.e.x) (hex : e.x = atX q) (heo : e.own = true) (hen : n ≤ e.n) (hef : ∀ j, j < n → e.f j = enc a j) (hpl : ∀ j, j < n → plain1 (enc a j) = true)
    (hsc : ∀ (l : Nat) (d : Chunk), l ≠ k → h[l]? = some (some d) → ∀ j, j < d.n → ∀ ρ ρ', (∀ l, l ≠ k → ρ' l = ρ l) → den1 ρ' (d.f j) = den1 ρ (d.f j)) (hv : plain3 v = true)
    (kk : (∀ x ∈ F, x.1 ≠ q) → N (EndN ss ((h.set i (some (@Chunk.mk (famX n enc ((q, a) :: F)) true m ps))).set k none) v K)) : N (EndN ss h v K) :=
  N.mk fun X ρ w x T H hd => by
    have mi : May X (ρ i).1 := by
      by_cases hl : i < ss.length
      · obtain ⟨s, h1, h2, h3⟩ := hib hl
        exact T.mayX H h1 h2 h3
      · exact T.may H hi rfl hm (by omega)
    have mk : May X (ρ k).1 := T.may H hk heo (by omega) hkb
    have H2 := H.famIn hm hn hi hk hik (by rw [T.n0]; exact hkb) mi mk hex heo hen hef hpl hsc
    have hne : ∀ x ∈ F, x.1 ≠ q := fun y hy e' => by
      obtain ⟨S, E⟩ := H.ext
      have FO : FamOK n enc F (S i) w := E.inv i _ hi
      have hρ : ρ k = q := by have := E.inv k e hk; rw [hex] at this; exact this.1
      have := (E.apart i _ _ k e hi ((FO.dom _).2 ⟨y, hy, rfl⟩) hk (Ne.symm hik)).1
      rw [hρ, e'] at this; exact this rfl
    exact N.out (kk hne) X ρ w x T H2 (fun r hr => by rw [den_plain3 hv, ← hd.self, den_plain3 hv])
end Go.Proofs.YtijiggkhnpmaiaaGreat.Sx


/-
  The walks of window: behind, Hear, New.
-/
set_option linter.unusedVariables false
set_option linter.unusedSimpArgs false
namespace Go.Proofs.YtijiggkhnpmaiaaGreat
open Go Go.RowKit Sx

theorem bv_nat {a : Nat} (h : a < 18446744073709551616) : (BitVec.ofInt IntKind.u64.bits (a : Int)).toNat = a := by
  rw [BitVec.toNat_ofInt]
  show ((a : Int) % 18446744073709551616).toNat = a
  omega
theorem wrap_nat {a : Nat} (h : a < 18446744073709551616) : IntKind.u64.wrap ((a : Nat) : Int) = a := by
  rw [IntKind.wrap_u64]; omega
theorem or_u {a b : Nat} (ha : a < 18446744073709551616) (hb : b < 18446744073709551616) : IntKind.u64.wrap ((BitVec.ofInt IntKind.u64.bits (a : Int) ||| BitVec.ofInt IntKind.u64.bits (b : Int)).toNat : Nat) = ((a ||| b : Nat) : Int) := by
  rw [BitVec.toNat_or, bv_nat ha, bv_nat hb]
  exact wrap_nat (Nat.or_lt_two_pow (n := 64) ha hb)
theorem and_u {a b : Nat} (ha : a < 18446744073709551616) (hb : b < 18446744073709551616) : IntKind.u64.wrap ((BitVec.ofInt IntKind.u64.bits (a : Int) &&& BitVec.ofInt IntKind.u64.bits (b : Int)).toNat : Nat) = ((a &&& b : Nat) : Int) := by
  rw [BitVec.toNat_and, bv_nat ha, bv_nat hb]
  exact wrap_nat (Nat.lt_of_le_of_lt Nat.and_le_left ha)
theorem shl_u (a n : Nat) : IntKind.u64.wrap ((a : Int) * 2 ^ n) = ((a * 2 ^ n % 18446744073709551616 : Nat) : Int) := by
  rw [IntKind.wrap_u64]
  have : ((a : Int) * 2 ^ n) = ((a * 2 ^ n : Nat) : Int) := by rw [Int.natCast_mul, Int.natCast_pow]; rfl
  rw [this]; omega
theorem and_pow (s d : Nat) : s &&& 2 ^ d = if s.testBit d then 2 ^ d else 0 := by
  apply Nat.eq_of_testBit_eq
  intro i
  rw [Nat.testBit_and, Nat.testBit_two_pow]
  by_cases e : d = i
  · subst e; cases h : s.testBit d <;> simp
  · cases h : s.testBit d <;> simp [e]

abbrev noC : Chunk := ⟨false, 0, []⟩
/-- A window: is anything heard, the last one, what was heard. -/
abbrev wnC (o a : Bool) (l : Int) (s : Nat) : Chunk := ⟨o, 3, [(0, 3, .agg ⟨[.bool a, .int .i64 l, .int .u64 (s : Int)]⟩)]⟩
def bitW (l q : Int) : Nat := if -serD l q < 0 ∨ -serD l q ≥ 64 then 0 else 2 ^ (-serD l q).toNat
theorem bitW_lt (l q : Int) : bitW l q < 18446744073709551616 := by
  unfold bitW
  split
  · decide
  · have : (-serD l q).toNat < 64 := by omega
    exact Nat.pow_lt_pow_right (by decide) this
structure Win where
  any : Bool
  last : Int
  seen : Nat
def Win.zero : Win := ⟨false, 0, 0⟩
/-- What is answered when a number is heard, and the window then. -/
def whear (W : Win) (q : Int) : Int × Win :=
  if W.any = false then (0, ⟨true, q, 1⟩)
  else if serD W.last q = 32768 then (9, W)
  else if 0 < serD W.last q then (0, ⟨true, q, (W.seen * 2 ^ (serD W.last q).toNat % 18446744073709551616) ||| 1⟩)
  else if bitW W.last q = 0 ∨ W.seen &&& bitW W.last q ≠ 0 then (9, W)
  else (0, ⟨true, W.last, W.seen ||| bitW W.last q⟩)
abbrev winC (o : Bool) (W : Win) : Chunk := wnC o W.any W.last W.seen
abbrev winX (x : Ext) (W : Win) : Chunk := @Chunk.mk x true 3 [(0, 3, .agg ⟨[.bool W.any, .int .i64 W.last, .int .u64 (W.seen : Int)]⟩)]
theorem wx_re {ix : List (Nat × Nat)} {x y : Ext} {W : Win} : ChunkRe ix (winX x W) (winX y W) := fun j hj => by
  match j, hj with
  | 0, _ => exact .plain rfl
  | 1, _ => exact .plain rfl
  | 2, _ => exact .plain rfl
theorem wn_re {ix : List (Nat × Nat)} {o o' a : Bool} {l : Int} {s : Nat} : ChunkRe ix (wnC o a l s) (wnC o' a l s) := fun j hj => by
  match j, hj with
  | 0, _ => exact .plain rfl
  | 1, _ => exact .plain rfl
  | 2, _ => exact .plain rfl
theorem wx_wn {ix : List (Nat × Nat)} {x : Ext} {o a : Bool} {l : Int} {s : Nat} : ChunkRe ix (winX x ⟨a, l, s⟩) (wnC o a l s) := fun j hj => by
  match j, hj with
  | 0, _ => exact .plain rfl
  | 1, _ => exact .plain rfl
  | 2, _ => exact .plain rfl
theorem wn_post {ix : List (Nat × Nat)} {a : Bool} {l : Int} {s : Nat} {hp : List (Option Chunk)} {n : Nat} {c : Chunk} {x : Ext} (hh : hp[n]? = some (some c)) (ho : c.own = true) (hn : 3 ≤ c.n) (h0 : c.f 0 = .bool a) (h1 : c.f 1 = .int .i64 l) (h2 : c.f 2 = .int .u64 (s : Int)) : PostC ix hp n (winX x ⟨a, l, s⟩) :=
  ⟨_, hh, fun _ => ho, hn, fun j hj => by
    match j, hj with
    | 0, _ => rw [h0]; exact .plain rfl
    | 1, _ => rw [h1]; exact .plain rfl
    | 2, _ => rw [h2]; exact .plain rfl⟩
set_option maxRecDepth 100000 in
set_option maxHeartbeats 1000000 in
theorem cBehind (x : Ext) (W : Win) (q : Int) (i : Nat) (h : List (Option Chunk)) (hi : h[i]? = some (some (winX x W))) :
    CallOK Tryz.prog 82 [.pointer (some ⟨i, 0, some 0⟩), .int .i64 q] h (.int .u64 (bitW W.last q : Int)) [] [i] := by
  obtain ⟨a, l, s⟩ := W
  show CallOK _ _ _ h (.int .u64 (bitW l q : Int)) [] [i]
  refine call_sub (G := tys) [⟨i, _, wnC false a l s, noC⟩] [] [.pointer (some ⟨0, 0, some 0⟩), .int .i64 q] tysOK mixed Tryz.func82 (by rfl) (Tryz.call82) ⟨hi, trivial⟩ ⟨⟨fun h => (by cases h), Nat.le_refl _, wx_wn⟩, trivial⟩ (by simp [Apart]) trivial ⟨.ptr rfl, .plain rfl, trivial⟩ ?_
  have hd := serD_in l q
  have en : IntKind.i64.wrap (0 - serD l q) = -serD l q := by rw [IntKind.wrap_i64]; omega
  repeat' (refine N.go ?_; first | with_reducible refine N.obl (by decide) ?_ | with_reducible refine N.obl (flat_wi _ _ _) ?_ | with_reducible refine N.obl (flat_lim _ _) ?_ | with_reducible refine N.eq ?_ | with_reducible refine N.obl rfl ?_ | with_reducible refine N.obl ⟨by kernel_rfl, by kernel_rfl⟩ ?_ | with_reducible refine N.alt ?_ | with_reducible refine N.forkT ?_ | with_reducible refine N.forkF ?_ | refine N.call (cSerDiff _ _ _) ?_ | with_reducible refine N.fork (fun hb => ?_) (fun hb => ?_) | refine N.obl (.plain rfl) ?_ | refine N.obl trivial ?_ | exact N.true | fail_if_success skip)
  · refine N.go ?_
    simp only [en, decide_eq_true_eq] at hb
    have e : bitW l q = 0 := by unfold bitW; rw [if_pos (by omega)]
    rw [e]
    repeat' (refine N.go ?_; first | with_reducible refine N.obl (by decide) ?_ | with_reducible refine N.obl (flat_wi _ _ _) ?_ | with_reducible refine N.obl (flat_lim _ _) ?_ | with_reducible refine N.eq ?_ | with_reducible refine N.obl rfl ?_ | with_reducible refine N.obl ⟨by kernel_rfl, by kernel_rfl⟩ ?_ | with_reducible refine N.alt ?_ | with_reducible refine N.forkT ?_ | with_reducible refine N.forkF ?_ | refine N.call (cSerDiff _ _ _) ?_ | with_reducible refine N.fork (fun hb => ?_) (fun hb => ?_) | refine N.obl (.plain rfl) ?_ | refine N.obl trivial ?_ | exact N.true | fail_if_success skip)
  · refine N.go ?_
    rename_i hb1
    simp only [en, decide_eq_true_eq, decide_eq_false_iff_not] at hb hb1
    have e : bitW l q = 0 := by unfold bitW; rw [if_pos (by omega)]
    rw [e]
    repeat' (refine N.go ?_; first | with_reducible refine N.obl (by decide) ?_ | with_reducible refine N.obl (flat_wi _ _ _) ?_ | with_reducible refine N.obl (flat_lim _ _) ?_ | with_reducible refine N.eq ?_ | with_reducible refine N.obl rfl ?_ | with_reducible refine N.obl ⟨by kernel_rfl, by kernel_rfl⟩ ?_ | with_reducible refine N.alt ?_ | with_reducible refine N.forkT ?_ | with_reducible refine N.forkF ?_ | refine N.call (cSerDiff _ _ _) ?_ | with_reducible refine N.fork (fun hb => ?_) (fun hb => ?_) | refine N.obl (.plain rfl) ?_ | refine N.obl trivial ?_ | exact N.true | fail_if_success skip)
  · refine N.go ?_
    rename_i hb1
    simp only [en, decide_eq_true_eq, decide_eq_false_iff_not] at hb hb1
    refine N.obl (by rw [en]; omega) ?_
    have e : IntKind.u64.wrap (1 * 2 ^ sh (IntKind.i64.wrap (0 - serD l q)) IntKind.u64) = (bitW l q : Int) := by
      rw [en]
      have e1 : sh (-serD l q) IntKind.u64 = (-serD l q).toNat := by show min (-serD l q).toNat 64 = _; omega
      have e2 : bitW l q = 2 ^ (-serD l q).toNat := by unfold bitW; rw [if_neg (by omega)]
      have e3 := shl_u 1 (-serD l q).toNat
      rw [e1]
      have hlt := bitW_lt l q
      rw [e2] at hlt ⊢
      rw [Nat.one_mul, Nat.mod_eq_of_lt hlt] at e3
      exact e3
    rw [e]
    repeat' (refine N.go ?_; first | with_reducible refine N.obl (by decide) ?_ | with_reducible refine N.obl (flat_wi _ _ _) ?_ | with_reducible refine N.obl (flat_lim _ _) ?_ | with_reducible refine N.eq ?_ | with_reducible refine N.obl rfl ?_ | with_reducible refine N.obl ⟨by kernel_rfl, by kernel_rfl⟩ ?_ | with_reducible refine N.alt ?_ | with_reducible refine N.forkT ?_ | with_reducible refine N.forkF ?_ | refine N.call (cSerDiff _ _ _) ?_ | with_reducible refine N.fork (fun hb => ?_) (fun hb => ?_) | refine N.obl (.plain rfl) ?_ | refine N.obl trivial ?_ | exact N.true | fail_if_success skip)
set_option maxRecDepth 100000 in
set_option maxHeartbeats 1000000 in
theorem cWHear (x : Ext) (W W' : Win) (q e : Int) (i : Nat) (hs : W.seen < 18446744073709551616) (hq : serOK q) (he : whear W q = (e, W')) (h : List (Option Chunk)) (hi : h[i]? = some (some (winX x W))) :
    CallOK Tryz.prog 47 [.pointer (some ⟨i, 0, some 0⟩), .int .i64 q] h (.int .i64 e) [(i, winX x W')] [] := by
  refine call_res (G := tys) (fun _ : Unit => True) (fun _ => _) [⟨i, _, winX x W, winX x W'⟩] [] [.pointer (some ⟨0, 0, some 0⟩), .int .i64 q] tysOK mixed Tryz.func47 (by rfl) (Tryz.call47) ⟨hi, trivial⟩ ⟨⟨fun h => ⟨rfl, Nat.le_refl _⟩, Nat.le_refl _, wx_re⟩, trivial⟩ (by simp [Apart]) ⟨.inr ⟨rfl, rfl⟩, trivial⟩ trivial ⟨.ptr rfl, .plain rfl, trivial⟩ Opens.same ?_
  rintro ⟨⟩ -
  have hd := serD_in W.last q
  have hbw := bitW_lt W.last q
  repeat' (refine N.go ?_; first | with_reducible refine N.obl (by decide) ?_ | with_reducible refine N.obl (flat_wi _ _ _) ?_ | with_reducible refine N.obl (flat_lim _ _) ?_ | with_reducible refine N.eq ?_ | with_reducible refine N.obl rfl ?_ | with_reducible refine N.obl ⟨by kernel_rfl, by kernel_rfl⟩ ?_ | with_reducible refine N.alt ?_ | with_reducible refine N.forkT ?_ | with_reducible refine N.forkF ?_ | refine N.forkNo (by simp only [decide_eq_true hq]; rfl) ?_ | refine N.call (cSerMay _ _) ?_ | refine N.call (cSerDiff _ _ _) ?_ | refine N.call (cBehind _ _ _ _ _ (by rfl)) ?_ | with_reducible refine N.fork (fun hb => ?_) (fun hb => ?_) | fail_if_success skip)
  · simp only [Bool.not_eq_eq_eq_not, Bool.not_true] at hb
    have e1 : whear W q = (0, ⟨true, q, 1⟩) := by unfold whear; rw [if_pos hb]
    rw [e1] at he
    obtain ⟨rfl, rfl⟩ := Prod.mk.inj he
    repeat' (refine N.go ?_; first | with_reducible refine N.obl (by decide) ?_ | with_reducible refine N.obl (flat_wi _ _ _) ?_ | with_reducible refine N.obl (flat_lim _ _) ?_ | with_reducible refine N.eq ?_ | with_reducible refine N.obl rfl ?_ | with_reducible refine N.obl ⟨by kernel_rfl, by kernel_rfl⟩ ?_ | with_reducible refine N.alt ?_ | with_reducible refine N.forkT ?_ | with_reducible refine N.forkF ?_ | refine N.endSame ?_ | refine N.obl (.plain rfl) ?_ | refine N.obl ⟨wn_post (by rfl) rfl (Nat.le_refl _) (by rfl) (by rfl) (by rfl), trivial⟩ ?_ | refine N.obl trivial ?_ | refine N.obl ⟨⟨.inr ⟨_, rfl, rfl⟩, trivial⟩, trivial⟩ ?_ | exact N.true | fail_if_success skip)
  · rename_i hb1
    simp only [Bool.not_eq_eq_eq_not, Bool.not_false, beq_iff_eq] at hb hb1
    have e1 : whear W q = (9, W) := by unfold whear; rw [if_neg (by rw [hb1]; decide), if_pos hb]
    rw [e1] at he
    obtain ⟨rfl, rfl⟩ := Prod.mk.inj he
    repeat' (refine N.go ?_; first | with_reducible refine N.obl (by decide) ?_ | with_reducible refine N.obl (flat_wi _ _ _) ?_ | with_reducible refine N.obl (flat_lim _ _) ?_ | with_reducible refine N.eq ?_ | with_reducible refine N.obl rfl ?_ | with_reducible refine N.obl ⟨by kernel_rfl, by kernel_rfl⟩ ?_ | with_reducible refine N.alt ?_ | with_reducible refine N.forkT ?_ | with_reducible refine N.forkF ?_ | refine N.endSame ?_ | refine N.obl (.plain rfl) ?_ | refine N.obl ⟨wn_post (by rfl) rfl (Nat.le_refl _) (by rfl) (by rfl) (by rfl), trivial⟩ ?_ | refine N.obl trivial ?_ | refine N.obl ⟨⟨.inr ⟨_, rfl, rfl⟩, trivial⟩, trivial⟩ ?_ | exact N.true | fail_if_success skip)
  · rename_i hb2 hb1
    simp only [Bool.not_eq_eq_eq_not, Bool.not_false, beq_iff_eq, beq_eq_false_iff_ne, decide_eq_true_eq, gt_iff_lt] at hb hb1 hb2
    have e1 : whear W q = (0, ⟨true, q, (W.seen * 2 ^ (serD W.last q).toNat % 18446744073709551616) ||| 1⟩) := by unfold whear; rw [if_neg (by rw [hb2]; decide), if_neg hb1, if_pos hb]
    rw [e1] at he
    obtain ⟨rfl, rfl⟩ := Prod.mk.inj he
    refine N.go ?_
    refine N.obl (by omega) ?_
    have e2 : IntKind.u64.wrap ((W.seen : Int) * 2 ^ sh (serD W.last q) IntKind.u64) = ((W.seen * 2 ^ (serD W.last q).toNat % 18446744073709551616 : Nat) : Int) := by
      rcases Int.le_total (serD W.last q) 64 with h64 | h64
      · have e3 : sh (serD W.last q) IntKind.u64 = (serD W.last q).toNat := by show min (serD W.last q).toNat 64 = _; omega
        rw [e3]; exact shl_u _ _
      · have e3 : sh (serD W.last q) IntKind.u64 = 64 := by show min (serD W.last q).toNat 64 = _; omega
        rw [e3, shl_u]
        have e4 : ∀ m : Nat, 64 ≤ m → W.seen * 2 ^ m % 18446744073709551616 = 0 := fun m hm => by
          obtain ⟨r, rfl⟩ := Nat.exists_eq_add_of_le hm
          rw [Nat.pow_add, show (2 : Nat) ^ 64 = 18446744073709551616 from by decide, ← Nat.mul_assoc, Nat.mul_right_comm]
          exact Nat.mul_mod_left _ _
        rw [e4 64 (Nat.le_refl _), e4 _ (by omega)]
    rw [e2]
    have e5 : IntKind.u64.wrap ((BitVec.ofInt IntKind.u64.bits ((W.seen * 2 ^ (serD W.last q).toNat % 18446744073709551616 : Nat) : Int) ||| BitVec.ofInt IntKind.u64.bits 1).toNat : Nat) = ((W.seen * 2 ^ (serD W.last q).toNat % 18446744073709551616 ||| 1 : Nat) : Int) := or_u (b := 1) (Nat.mod_lt _ (by decide)) (by decide)
    repeat' (refine N.go ?_; first | with_reducible refine N.obl (by decide) ?_ | with_reducible refine N.obl (flat_wi _ _ _) ?_ | with_reducible refine N.obl (flat_lim _ _) ?_ | with_reducible refine N.eq ?_ | with_reducible refine N.obl rfl ?_ | with_reducible refine N.obl ⟨by kernel_rfl, by kernel_rfl⟩ ?_ | with_reducible refine N.alt ?_ | with_reducible refine N.forkT ?_ | with_reducible refine N.forkF ?_ | refine N.endSame ?_ | refine N.obl (.plain rfl) ?_ | refine N.obl ⟨wn_post (by rfl) rfl (Nat.le_refl _) (by exact congrArg Value.bool hb2) (by rfl) (by exact congrArg (Value.int IntKind.u64) e5), trivial⟩ ?_ | refine N.obl trivial ?_ | refine N.obl ⟨⟨.inr ⟨_, rfl, rfl⟩, trivial⟩, trivial⟩ ?_ | exact N.true | fail_if_success skip)
  · rename_i hb3 hb2 hb1
    simp only [Bool.not_eq_eq_eq_not, Bool.not_false, beq_iff_eq, beq_eq_false_iff_ne, decide_eq_true_eq, decide_eq_false_iff_not, gt_iff_lt] at hb hb1 hb2 hb3
    have hz : bitW W.last q = 0 := by omega
    have e1 : whear W q = (9, W) := by unfold whear; rw [if_neg (by rw [hb3]; decide), if_neg hb2, if_neg hb1, if_pos (.inl hz)]
    rw [e1] at he
    obtain ⟨rfl, rfl⟩ := Prod.mk.inj he
    repeat' (refine N.go ?_; first | with_reducible refine N.obl (by decide) ?_ | with_reducible refine N.obl (flat_wi _ _ _) ?_ | with_reducible refine N.obl (flat_lim _ _) ?_ | with_reducible refine N.eq ?_ | with_reducible refine N.obl rfl ?_ | with_reducible refine N.obl ⟨by kernel_rfl, by kernel_rfl⟩ ?_ | with_reducible refine N.alt ?_ | with_reducible refine N.forkT ?_ | with_reducible refine N.forkF ?_ | refine N.endSame ?_ | refine N.obl (.plain rfl) ?_ | refine N.obl ⟨wn_post (by rfl) rfl (Nat.le_refl _) (by rfl) (by rfl) (by rfl), trivial⟩ ?_ | refine N.obl trivial ?_ | refine N.obl ⟨⟨.inr ⟨_, rfl, rfl⟩, trivial⟩, trivial⟩ ?_ | exact N.true | fail_if_success skip)
  · rename_i hb4 hb3 hb2 hb1
    simp only [Bool.not_eq_eq_eq_not, Bool.not_false, beq_iff_eq, beq_eq_false_iff_ne, decide_eq_true_eq, decide_eq_false_iff_not, gt_iff_lt, bne_iff_ne, ne_eq] at hb hb1 hb2 hb3 hb4
    rw [and_u hs hbw] at hb
    have e1 : whear W q = (9, W) := by unfold whear; rw [if_neg (by rw [hb4]; decide), if_neg hb3, if_neg hb2, if_pos (.inr (by omega))]
    rw [e1] at he
    obtain ⟨rfl, rfl⟩ := Prod.mk.inj he
    repeat' (refine N.go ?_; first | with_reducible refine N.obl (by decide) ?_ | with_reducible refine N.obl (flat_wi _ _ _) ?_ | with_reducible refine N.obl (flat_lim _ _) ?_ | with_reducible refine N.eq ?_ | with_reducible refine N.obl rfl ?_ | with_reducible refine N.obl ⟨by kernel_rfl, by kernel_rfl⟩ ?_ | with_reducible refine N.alt ?_ | with_reducible refine N.forkT ?_ | with_reducible refine N.forkF ?_ | refine N.endSame ?_ | refine N.obl (.plain rfl) ?_ | refine N.obl ⟨wn_post (by rfl) rfl (Nat.le_refl _) (by rfl) (by rfl) (by rfl), trivial⟩ ?_ | refine N.obl trivial ?_ | refine N.obl ⟨⟨.inr ⟨_, rfl, rfl⟩, trivial⟩, trivial⟩ ?_ | exact N.true | fail_if_success skip)
  · rename_i hb4 hb3 hb2 hb1
    simp only [Bool.not_eq_eq_eq_not, Bool.not_false, beq_iff_eq, beq_eq_false_iff_ne, decide_eq_true_eq, decide_eq_false_iff_not, gt_iff_lt, bne_eq_false_iff_eq, ne_eq] at hb hb1 hb2 hb3 hb4
    rw [and_u hs hbw] at hb
    have e1 : whear W q = (0, ⟨true, W.last, W.seen ||| bitW W.last q⟩) := by unfold whear; rw [if_neg (by rw [hb4]; decide), if_neg hb3, if_neg hb2, if_neg (by omega)]
    rw [e1] at he
    obtain ⟨rfl, rfl⟩ := Prod.mk.inj he
    have e5 := or_u hs hbw
    repeat' (refine N.go ?_; first | with_reducible refine N.obl (by decide) ?_ | with_reducible refine N.obl (flat_wi _ _ _) ?_ | with_reducible refine N.obl (flat_lim _ _) ?_ | with_reducible refine N.eq ?_ | with_reducible refine N.obl rfl ?_ | with_reducible refine N.obl ⟨by kernel_rfl, by kernel_rfl⟩ ?_ | with_reducible refine N.alt ?_ | with_reducible refine N.forkT ?_ | with_reducible refine N.forkF ?_ | refine N.endSame ?_ | refine N.obl (.plain rfl) ?_ | refine N.obl ⟨wn_post (by rfl) rfl (Nat.le_refl _) (by exact congrArg Value.bool hb4) (by rfl) (by exact congrArg (Value.int IntKind.u64) e5), trivial⟩ ?_ | refine N.obl trivial ?_ | refine N.obl ⟨⟨.inr ⟨_, rfl, rfl⟩, trivial⟩, trivial⟩ ?_ | exact N.true | fail_if_success skip)
end Go.Proofs.YtijiggkhnpmaiaaGreat


/-
  A table of neighbours, told as one stretch; the walks of New, Len, Get.
-/
set_option linter.unusedVariables false
set_option linter.unusedSimpArgs false
namespace Go.Proofs.YtijiggkhnpmaiaaGreat
open Go Go.RowKit Sx

structure Ent where
  node : Int
  boot : Int
  heard : Int
  has : Bool
  x : Int
  y : Int
  a : Int
  b : Int
  d : Int
  when_ : Int
def Ent.zero : Ent := ⟨0, 0, 0, false, 0, 0, 0, 0, 0, 0⟩
abbrev entV (e : Ent) : Value := .agg ⟨[.int .i64 e.node, .int .i64 e.boot, .int .i64 e.heard, .bool e.has, .int .i64 e.x, .int .i64 e.y, .int .i64 e.a, .int .i64 e.b, .int .i64 e.d, .int .i64 e.when_]⟩
/-- A life, with the address of its window. -/
structure LifR where
  boot : Int
  left : Bool
  q : Nat × Nat
abbrev lifV (l : LifR) : Value := .agg ⟨[.int .i64 l.boot, .bool l.left, realP l.q]⟩
/-- A life. -/
structure Life where
  boot : Int
  left : Bool
  W : Win
structure Tbl where
  most : Int
  E : List (Int × Ent)
  lives : Int → Option Life
def winF (W : Win) (j : Nat) : Value := match j with
  | 0 => .bool W.any
  | 1 => .int .i64 W.last
  | _ => .int .u64 (W.seen : Int)
/-- The lives as they lie in memory: a map of lives, windows. -/
structure LB where
  D : List (Int × LifR)
  F : List ((Nat × Nat) × Win)
def livesOK (lv : Int → Option Life) (β : LB) : Prop :=
  (∀ n, dGet β.D n = none → lv n = none) ∧ (∀ n r, dGet β.D n = some r → ∃ W, (r.q, W) ∈ β.F ∧ lv n = some ⟨r.boot, r.left, W⟩) ∧
  ∀ n m r s, dGet β.D n = some r → dGet β.D m = some s → r.q = s.q → n = m
abbrev mainC (F : List ((Nat × Nat) × Win)) (most : Int) : Chunk := @Chunk.mk (famX 3 winF F) true 3 [(0, 3, .agg ⟨[.int .i64 most, .map (some 1), .map (some 2)]⟩)]
abbrev tblH (T : Tbl) (β : LB) : List (Option Chunk) := [some (mainC β.F T.most), some (mapC entV T.E), some (mapC lifV β.D)]
/-- A table. -/
abbrev tblC (T : Tbl) : Chunk := packC (livesOK T.lives) (tblH T)
def Tbl.new (most : Int) : Tbl := ⟨max 1 (min most 64), [], fun _ => none⟩
theorem main_re {ix : List (Nat × Nat)} {F : List ((Nat × Nat) × Win)} {most : Int} {c : Chunk} {i j : Nat} (h0 : c.f 0 = .int .i64 most) (h1 : c.f 1 = .map (some i)) (h2 : c.f 2 = .map (some j)) (hi : ixK ix 1 = some i) (hj : ixK ix 2 = some j) : ∀ l, l < 3 → Re1 ix (c.f l) ((mainC F most).f l) := fun l hl => by
  match l, hl with
  | 0, _ => rw [h0]; exact .plain rfl
  | 1, _ => rw [h1]; exact .map hi
  | 2, _ => rw [h2]; exact .map hj
/-- The end of a callee: a table lies at m, its maps at i and j. -/
theorem tblClose {ss : List Piece} {h : List (Option Chunk)} {v : Value} {K : Value → List (Option Chunk) → Prop} (T : Tbl) (β : LB) (m i j : Nat) (keep : List Nat) {c : Chunk} (hpc : ∀ l, (l = m ∨ l = i ∨ l = j) → l < ss.length → ∃ s, ss[l]? = some s ∧ s.e.x ≠ Ext.none ∧ Selfish s.e.x) (hbs : ∀ i, i < ss.length → i = m ∨ i ∈ keep) (hok : livesOK T.lives β)
    (hm : h[m]? = some (some c)) (ho : c.own = true) (hn : c.n = 3) (hx : c.x = famX 3 winF β.F) (h0 : c.f 0 = .int .i64 T.most) (h1 : c.f 1 = .map (some i)) (h2 : c.f 2 = .map (some j)) (hi : h[i]? = some (some (mapC entV T.E))) (hj : h[j]? = some (some (mapC lifV β.D))) (hd : m ≠ i ∧ m ≠ j ∧ i ≠ j)
    (hkk : ∀ k ∈ keep, k ≠ m ∧ k ≠ i ∧ k ≠ j) (hkd : ∀ k ∈ keep, ∀ (d : Chunk), h[k]? = some (some d) → ∀ l, l < d.n → Safe1 (closeH (tblC T) m keep h 0) (d.f l))
    (hv : ∀ ρ ρ', AgreeOn (Fil (closeH (tblC T) m keep h 0)) ρ ρ' → den ρ' v = den ρ v) (kk : K v (closeH (tblC T) m keep h 0)) : N (EndN ss h v K) := by
  refine closeN (ok := livesOK T.lives) (hB := tblH T) β m [(0, m), (1, i), (2, j)] keep (fun k l hk hl => hpc l ?_ hl) hbs hok rfl ⟨_, rfl⟩ ?_ rfl ?_ (fun k hk l i' hm' => ?_) hkd hv (List.getElem?_eq_some_iff.1 hm).1 kk
  · simp only [List.mem_cons, Prod.mk.injEq, List.not_mem_nil, or_false] at hk
    omega
  · have nb : ∀ a b : Nat, a ≠ b → Nat.beq a b = false := fun a b hab => by
      cases e : Nat.beq a b with
      | false => rfl
      | true => exact absurd (Nat.eq_of_beq_eq_true e) hab
    simp only [ixOne, List.all_cons, List.all_nil, nb _ _ hd.1.symm, nb _ _ hd.2.1.symm, nb _ _ hd.2.2.symm]
    rfl
  · intro k d hk
    match k, hk with
    | 0, hk =>
      obtain rfl : _ = d := by simpa using hk
      exact ⟨m, c, rfl, hm, ho, by rw [hn]; exact Nat.le_refl _, main_re h0 h1 h2 rfl rfl, .inr hx.symm, .inl (by omega)⟩
    | 1, hk =>
      obtain rfl : _ = d := by simpa using hk
      exact ⟨i, _, rfl, hi, rfl, Nat.le_refl _, fun j hj => absurd hj (Nat.not_lt_zero j), .inr rfl, .inr mapX_selfish⟩
    | 2, hk =>
      obtain rfl : _ = d := by simpa using hk
      exact ⟨j, _, rfl, hj, rfl, Nat.le_refl _, fun j hj => absurd hj (Nat.not_lt_zero j), .inr rfl, .inr mapX_selfish⟩
    | k + 3, hk => simp at hk
  · have := hkk k hk
    simp only [List.mem_cons, Prod.mk.injEq, List.not_mem_nil, or_false] at hm'
    omega
theorem livesNew : livesOK (fun _ => none) ⟨[], []⟩ := ⟨fun _ _ => rfl, fun _ _ h => by simp [dGet] at h, fun _ _ _ _ h => by simp [dGet] at h⟩
theorem plain_sc {v : Value} (h : plain3 v = true) {F : Nat → Prop} : ∀ ρ ρ', AgreeOn F ρ ρ' → den ρ' v = den ρ v := fun ρ ρ' _ => by rw [den_plain3 h, den_plain3 h]
theorem tblC_ne (T : Tbl) : (tblC T).x ≠ Ext.none := fun e => by
  have h1 : ∀ p S w, (tblC T).x.inv p S w → S p.1 := packX_selfish
  rw [e] at h1
  exact (h1 (0, 0) (fun _ => False) default fun _ h => h).elim
theorem tbl_piece {i : Nat} {T T' : Tbl} : ∀ l, (l = 0 ∨ l = 1 ∨ l = 2) → l < [(⟨i, tblC T, tblC T, tblC T'⟩ : Piece)].length → ∃ s, [(⟨i, tblC T, tblC T, tblC T'⟩ : Piece)][l]? = some s ∧ s.e.x ≠ Ext.none ∧ Selfish s.e.x := fun l _ hl => by
  obtain rfl : l = 0 := by simpa using hl
  exact ⟨_, rfl, tblC_ne T, packX_selfish⟩
theorem safe0 {h : List (Option Chunk)} {T : Tbl} {m : Nat} : ∀ k ∈ ([] : List Nat), ∀ (d : Chunk), h[k]? = some (some d) → ∀ l, l < d.n → Safe1 (closeH (tblC T) m [] h 0) (d.f l) := fun k hk => by cases hk
set_option maxRecDepth 100000 in
set_option maxHeartbeats 2000000 in
theorem cNewT (most : Int) (k : Nat) (h : List (Option Chunk)) (hk : h[k]? = some none) :
    CallOK Tryz.prog 67 [.int .i64 most] h (.pointer (some ⟨k, 0, some 0⟩)) [(k, tblC (Tbl.new most))] [] := by
  refine call_res (G := tys) (fun _ : Unit => True) (fun _ => []) [] [⟨k, 10, tblC (Tbl.new most)⟩] [.int .i64 most] tysOK mixed Tryz.func67 (by rfl) (Tryz.call67) trivial trivial trivial trivial ⟨⟨hk, rfl, .inr packX_selfish, by simp⟩, trivial⟩ ⟨.plain rfl, trivial⟩ Opens.same ?_
  rintro ⟨⟩ -
  repeat' (refine N.go ?_; first | with_reducible refine N.obl (by decide) ?_ | with_reducible refine N.obl (flat_wi _ _ _) ?_ | with_reducible refine N.obl (flat_lim _ _) ?_ | with_reducible refine N.eq ?_ | with_reducible refine N.obl rfl ?_ | with_reducible refine N.obl ⟨by kernel_rfl, by kernel_rfl⟩ ?_ | with_reducible refine N.alt ?_ | with_reducible refine N.forkT ?_ | with_reducible refine N.forkF ?_ | with_reducible refine N.min2 ?_ | with_reducible refine N.max2 ?_ | fail_if_success skip)
  refine N.go ?_
  refine N_mkMap entV ?_
  repeat' (refine N.go ?_; first | with_reducible refine N.obl (by decide) ?_ | with_reducible refine N.obl (flat_wi _ _ _) ?_ | with_reducible refine N.obl (flat_lim _ _) ?_ | with_reducible refine N.eq ?_ | with_reducible refine N.obl rfl ?_ | with_reducible refine N.obl ⟨by kernel_rfl, by kernel_rfl⟩ ?_ | with_reducible refine N.alt ?_ | with_reducible refine N.forkT ?_ | with_reducible refine N.forkF ?_ | with_reducible refine N.min2 ?_ | with_reducible refine N.max2 ?_ | fail_if_success skip)
  refine N.go ?_
  refine N_mkMap lifV ?_
  repeat' (refine N.go ?_; first | with_reducible refine N.obl (by decide) ?_ | with_reducible refine N.obl (flat_wi _ _ _) ?_ | with_reducible refine N.obl (flat_lim _ _) ?_ | with_reducible refine N.eq ?_ | with_reducible refine N.obl rfl ?_ | with_reducible refine N.obl ⟨by kernel_rfl, by kernel_rfl⟩ ?_ | with_reducible refine N.alt ?_ | with_reducible refine N.forkT ?_ | with_reducible refine N.forkF ?_ | with_reducible refine N.min2 ?_ | with_reducible refine N.max2 ?_ | fail_if_success skip)
  refine N.go ?_
  refine N_endFam 3 winF (k := 10) (by rfl) ?_
  refine tblClose (Tbl.new most) ⟨[], []⟩ 10 8 9 [] (fun _ _ hl => absurd hl (by simp)) (fun i hi => absurd hi (by simp)) livesNew (by rfl) (by rfl) (by rfl) (by rfl) (by rfl) (by rfl) (by rfl) (by rfl) (by rfl) (by decide) (fun k hk => by cases hk) safe0 (fun ρ ρ' ha => by have := ha 10 ⟨_, rfl⟩; simp [den, den2, den1, den0, denA, this]) ?_
  refine N.obl (.one (.ptr rfl)) ?_
  refine N.obl trivial ?_
  refine N.obl ⟨⟨Nat.zero_le _, _, rfl, id, Nat.le_refl _, fun j hj => absurd hj (Nat.not_lt_zero j)⟩, trivial⟩ ?_
  refine N.obl ⟨trivial, .inr ⟨_, rfl, rfl⟩, trivial⟩ ?_
  exact N.true
end Go.Proofs.YtijiggkhnpmaiaaGreat


/-
  The contracts of the library that the walks of this claim use, laid at this program.
-/
namespace Go.Proofs
open Go.Shelf
def Tryz.keysA_ren : Go.Shelf.Ren := ⟨fun | 7 => 54 | 10 => 99 | n => n, fun | 23 => 108 | 26 => 3 | 3 => 74 | 28 => 116 | 0 => 0 | 27 => 115 | 33 => 102 | 4 => 4 | n => n, fun | n => n⟩
theorem Tryz.keysA : Go.Proofs.SlLaysZI.n7 Tryz.prog Tryz.keysA_ren := {
  mixed := by kernel_rfl
  f7 := ⟨Tryz.f54.name, by decide, Tryz.func54.trans (congrArg some (by kernel_rfl))⟩
  f10 := ⟨Tryz.f99.name, by decide, Tryz.func99.trans (congrArg some (by kernel_rfl))⟩
  t0 := Tryz.underlying0
  a0 := Tryz.isAgg0
  z0 := Tryz.sizeOf0
  v0 := Tryz.zeroValue0
  t4 := Tryz.underlying4
  a4 := Tryz.isAgg4
  z4 := Tryz.sizeOf4
  v4 := Tryz.zeroValue4
  t23 := Tryz.underlying108
  a23 := Tryz.isAgg108
  z23 := Tryz.sizeOf108
  v23 := Tryz.zeroValue108
  t26 := Tryz.underlying3
  a26 := Tryz.isAgg3
  z26 := Tryz.sizeOf3
  v26 := Tryz.zeroValue3
  t27 := Tryz.underlying115
  a27 := Tryz.isAgg115
  z27 := Tryz.sizeOf115
  v27 := Tryz.zeroValue115
  t28 := Tryz.underlying116
  a28 := Tryz.isAgg116
  z28 := Tryz.sizeOf116
  v28 := Tryz.zeroValue116
  t33 := Tryz.underlying102
  a33 := Tryz.isAgg102
  z33 := Tryz.sizeOf102
  v33 := Tryz.zeroValue102 }
def Tryz.sortedA_ren : Go.Shelf.Ren := ⟨fun | 6 => 53 | 8 => 97 | 9 => 98 | 11 => 120 | 13 => 122 | 12 => 121 | 23 => 147 | 24 => 148 | 14 => 138 | 15 => 139 | 16 => 140 | 17 => 141 | 18 => 142 | 19 => 143 | 20 => 144 | 21 => 145 | 22 => 146 | 25 => 168 | 26 => 169 | 27 => 170 | 28 => 171 | 29 => 172 | 30 => 113 | 31 => 195 | n => n, fun | 26 => 3 | 28 => 116 | 24 => 79 | 0 => 0 | 3 => 3 | 37 => 141 | 48 => 98 | 50 => 137 | 4 => 4 | 40 => 211 | 39 => 210 | 45 => 125 | 5 => 5 | 9 => 9 | 51 => 247 | 55 => 251 | 57 => 277 | 58 => 278 | 33 => 102 | n => n, fun | n => n⟩
theorem Tryz.sortedA : Go.Proofs.SlLaysZI.n6 Tryz.prog Tryz.sortedA_ren := {
  mixed := by kernel_rfl
  f6 := ⟨Tryz.f53.name, by decide, Tryz.func53.trans (congrArg some (by kernel_rfl))⟩
  f8 := ⟨Tryz.f97.name, by decide, Tryz.func97.trans (congrArg some (by kernel_rfl))⟩
  f11 := ⟨Tryz.f120.name, by decide, Tryz.func120.trans (congrArg some (by kernel_rfl))⟩
  t0 := Tryz.underlying0
  a0 := Tryz.isAgg0
  z0 := Tryz.sizeOf0
  v0 := Tryz.zeroValue0
  t24 := Tryz.underlying79
  a24 := Tryz.isAgg79
  z24 := Tryz.sizeOf79
  v24 := Tryz.zeroValue79
  t26 := Tryz.underlying3
  a26 := Tryz.isAgg3
  z26 := Tryz.sizeOf3
  v26 := Tryz.zeroValue3
  t28 := Tryz.underlying116
  a28 := Tryz.isAgg116
  z28 := Tryz.sizeOf116
  v28 := Tryz.zeroValue116
  i26 := by kernel_rfl }
def Tryz.sortA_ren : Go.Shelf.Ren := ⟨fun | 5 => 98 | 8 => 122 | 7 => 121 | 19 => 147 | 20 => 148 | 10 => 138 | 11 => 139 | 12 => 140 | 13 => 141 | 14 => 142 | 15 => 143 | 16 => 144 | 17 => 145 | 18 => 146 | 30 => 168 | 31 => 169 | 32 => 170 | 33 => 171 | 34 => 172 | 35 => 113 | 40 => 195 | n => n, fun | 23 => 79 | 25 => 3 | 3 => 3 | 32 => 141 | 22 => 79 | 0 => 0 | 44 => 98 | 46 => 137 | 4 => 4 | 36 => 211 | 35 => 210 | 41 => 125 | 5 => 5 | 9 => 9 | 53 => 247 | 57 => 251 | 63 => 277 | 64 => 278 | n => n, fun | n => n⟩
theorem Tryz.sortA : Go.Proofs.SlLaysM.n5 Tryz.prog Tryz.sortA_ren := {
  mixed := by kernel_rfl
  f5 := ⟨Tryz.f98.name, by decide, Tryz.func98.trans (congrArg some (by kernel_rfl))⟩
  f7 := ⟨Tryz.f121.name, by decide, Tryz.func121.trans (congrArg some (by kernel_rfl))⟩
  f8 := Tryz.func122.trans (congrArg some (by kernel_rfl))
  f10 := ⟨Tryz.f138.name, by decide, Tryz.func138.trans (congrArg some (by kernel_rfl))⟩
  f11 := ⟨Tryz.f139.name, by decide, Tryz.func139.trans (congrArg some (by kernel_rfl))⟩
  f12 := ⟨Tryz.f140.name, by decide, Tryz.func140.trans (congrArg some (by kernel_rfl))⟩
  f13 := ⟨Tryz.f141.name, by decide, Tryz.func141.trans (congrArg some (by kernel_rfl))⟩
  f14 := ⟨Tryz.f142.name, by decide, Tryz.func142.trans (congrArg some (by kernel_rfl))⟩
  f15 := ⟨Tryz.f143.name, by decide, Tryz.func143.trans (congrArg some (by kernel_rfl))⟩
  f16 := ⟨Tryz.f144.name, by decide, Tryz.func144.trans (congrArg some (by kernel_rfl))⟩
  f17 := ⟨Tryz.f145.name, by decide, Tryz.func145.trans (congrArg some (by kernel_rfl))⟩
  f18 := ⟨Tryz.f146.name, by decide, Tryz.func146.trans (congrArg some (by kernel_rfl))⟩
  f19 := Tryz.func147.trans (congrArg some (by kernel_rfl))
  f20 := Tryz.func148.trans (congrArg some (by kernel_rfl))
  f30 := ⟨Tryz.f168.name, by decide, Tryz.func168.trans (congrArg some (by kernel_rfl))⟩
  f31 := Tryz.func169.trans (congrArg some (by kernel_rfl))
  f32 := Tryz.func170.trans (congrArg some (by kernel_rfl))
  f33 := ⟨Tryz.f171.name, by decide, Tryz.func171.trans (congrArg some (by kernel_rfl))⟩
  f34 := ⟨Tryz.f172.name, by decide, Tryz.func172.trans (congrArg some (by kernel_rfl))⟩
  f35 := ⟨Tryz.f113.name, by decide, Tryz.func113.trans (congrArg some (by kernel_rfl))⟩
  f40 := ⟨Tryz.f195.name, by decide, Tryz.func195.trans (congrArg some (by kernel_rfl))⟩
  t0 := Tryz.underlying0
  a0 := Tryz.isAgg0
  z0 := Tryz.sizeOf0
  v0 := Tryz.zeroValue0
  t3 := Tryz.underlying3
  a3 := Tryz.isAgg3
  z3 := Tryz.sizeOf3
  v3 := Tryz.zeroValue3
  t4 := Tryz.underlying4
  a4 := Tryz.isAgg4
  z4 := Tryz.sizeOf4
  v4 := Tryz.zeroValue4
  t5 := Tryz.underlying5
  a5 := Tryz.isAgg5
  z5 := Tryz.sizeOf5
  v5 := Tryz.zeroValue5
  t9 := Tryz.underlying9
  a9 := Tryz.isAgg9
  z9 := Tryz.sizeOf9
  v9 := Tryz.zeroValue9
  t22 := Tryz.underlying79
  a22 := Tryz.isAgg79
  z22 := Tryz.sizeOf79
  v22 := Tryz.zeroValue79
  t23 := Tryz.underlying79
  a23 := Tryz.isAgg79
  z23 := Tryz.sizeOf79
  v23 := Tryz.zeroValue79
  t25 := Tryz.underlying3
  a25 := Tryz.isAgg3
  z25 := Tryz.sizeOf3
  v25 := Tryz.zeroValue3
  t32 := Tryz.underlying141
  a32 := Tryz.isAgg141
  z32 := Tryz.sizeOf141
  v32 := Tryz.zeroValue141
  t35 := Tryz.underlying210
  a35 := Tryz.isAgg210
  z35 := Tryz.sizeOf210
  v35 := Tryz.zeroValue210
  t36 := Tryz.underlying211
  a36 := Tryz.isAgg211
  z36 := Tryz.sizeOf211
  v36 := Tryz.zeroValue211
  t41 := Tryz.underlying125
  a41 := Tryz.isAgg125
  z41 := Tryz.sizeOf125
  v41 := Tryz.zeroValue125
  t44 := Tryz.underlying98
  a44 := Tryz.isAgg98
  z44 := Tryz.sizeOf98
  v44 := Tryz.zeroValue98
  t46 := Tryz.underlying137
  a46 := Tryz.isAgg137
  z46 := Tryz.sizeOf137
  v46 := Tryz.zeroValue137
  t53 := Tryz.underlying247
  a53 := Tryz.isAgg247
  z53 := Tryz.sizeOf247
  v53 := Tryz.zeroValue247
  t57 := Tryz.underlying251
  a57 := Tryz.isAgg251
  z57 := Tryz.sizeOf251
  v57 := Tryz.zeroValue251
  t63 := Tryz.underlying277
  a63 := Tryz.isAgg277
  z63 := Tryz.sizeOf277
  v63 := Tryz.zeroValue277
  t64 := Tryz.underlying278
  a64 := Tryz.isAgg278
  z64 := Tryz.sizeOf278
  v64 := Tryz.zeroValue278 }
end Go.Proofs


/-
  The keys of a map of entries, sorted: slices.Sorted(maps.Keys(m)).
-/
set_option linter.unusedVariables false
set_option linter.unusedSimpArgs false
namespace Go.Proofs.YtijiggkhnpmaiaaGreat
open Go Go.RowKit Sx

/-- A new block of known plain cells. -/
theorem HOK.newB {X : Ctx} {ρ : Nat → Nat × Nat} {h : List (Option Chunk)} {w w' : World} {i g : Nat} {d : Chunk} (H : HOK X ρ h w) (hi : h[i]? = some none) (hB : Below w.heap.size w w') (hg : w.heap.size ≤ g ∧ g < w'.heap.size) (hx : d.x = Ext.none)
    (hc : ∀ j, j < d.n → w'.cell? ⟨g, j, none⟩ = some (d.f j) ∧ plain1 (d.f j) = true ∧ w'.frozen? ⟨g, j, none⟩ = false) : ∃ ρ', AgreeOn (Fil h) ρ ρ' ∧ ρ' i = (g, 0) ∧ HOK X ρ' (h.set i (some d)) w' := by
  have H2 := H.frame hB
  obtain ⟨S, E⟩ := H.ext
  obtain ⟨S2, E2⟩ := H2.ext
  have hl := (List.getElem?_eq_some_iff.1 hi).1
  have nf : ¬ Fil h i := fun ⟨d, hd⟩ => by rw [hi] at hd; cases hd
  let ρ' : Nat → Nat × Nat := fun k => if k = i then (g, 0) else ρ k
  have hag : AgreeOn (Fil h) ρ ρ' := fun k hk => by
    show (if k = i then _ else _) = _
    rw [if_neg]; rintro rfl; exact nf hk
  have hρi : ρ' i = (g, 0) := if_pos rfl
  have hρk : ∀ k, k ≠ i → ρ' k = ρ k := fun k hk => if_neg hk
  have get : ∀ k e, (h.set i (some d))[k]? = some (some e) → (k = i ∧ e = d) ∨ (k ≠ i ∧ h[k]? = some (some e)) := fun k e hk => by
    by_cases ek : i = k
    · subst ek
      rw [List.getElem?_set_self hl] at hk
      exact .inl ⟨rfl, by simpa using hk.symm⟩
    · rw [List.getElem?_set_ne ek] at hk
      exact .inr ⟨fun h => ek h.symm, hk⟩
  have fil : ∀ k, Fil h k → Fil (h.set i (some d)) k := fun k hk => hk.set
  refine ⟨ρ', hag, hρi, H2.evo, fun k hk => ⟨fil k (H2.base k hk).1, ?_⟩, fun k e hk => ?_, fun k e hk j hj => ?_, fun k e hk hoe j hj => ?_, fun k e l f hk hoe hlf hne => ?_, ?_⟩
  · rw [hag k (H2.base k hk).1]; exact (H2.base k hk).2
  · rcases get k e hk with ⟨rfl, rfl⟩ | ⟨hne, hk⟩
    · rw [hρi]; exact hg.2
    · rw [hρk k hne]; exact H2.lt _ _ hk
  · rcases get k e hk with ⟨rfl, rfl⟩ | ⟨hne, hk⟩
    · rw [hρi]
      obtain ⟨h1, h2, _⟩ := hc j hj
      exact ⟨_, by simpa using h1, Den1.plain h2⟩
    · rw [hρk k hne]
      obtain ⟨y, hy, hd⟩ := H2.cell _ _ hk j hj
      exact ⟨y, hy, hd.more hag fil⟩
  · rcases get k e hk with ⟨rfl, rfl⟩ | ⟨hne, hk⟩
    · rw [hρi]
      exact ⟨by simpa using (hc j hj).2.2, .inl (Nat.le_trans H.evo.size hg.1)⟩
    · rw [hρk k hne]; exact H2.own _ _ hk hoe j hj
  · rcases get k e hk with ⟨rfl, rfl⟩ | ⟨hk1, hk'⟩ <;> rcases get l f hlf with ⟨rfl, rfl⟩ | ⟨hl1, hl'⟩
    · exact absurd rfl hne
    · rw [hρi, hρk l hl1]; have := H.lt _ _ hl'; simp; omega
    · rw [hρi, hρk k hk1]; have := H.lt _ _ hk'; simp; omega
    · rw [hρk k hk1, hρk l hl1]; exact H2.sep _ _ _ _ hk' hoe hl' hne
  · refine ⟨fun k b => k ≠ i ∧ S k b, fun k e hk => ?_, fun k e b hk hS => ?_, fun k e b l f hk hS hl' hne => ?_⟩
    · rcases get k e hk with ⟨rfl, rfl⟩ | ⟨hne, hk⟩
      · rw [hx]; exact fun b hb => hb.1 rfl
      · have : (fun b => k ≠ i ∧ S k b) = S k := by funext b; exact propext ⟨fun h => h.2, fun h => ⟨hne, h⟩⟩
        rw [this, hρk k hne]
        exact e.x.keep (E.inv k e hk) fun b hSb => hB.block b (E.mine k e b hk hSb).2.1
    · rcases get k e hk with ⟨rfl, rfl⟩ | ⟨hne, hk⟩
      · exact absurd rfl hS.1
      · obtain ⟨g1, g2, g3⟩ := E.mine k e b hk hS.2
        exact ⟨by rw [hρk k hne]; exact g1, Nat.lt_of_lt_of_le g2 hB.size, g3⟩
    · rcases get k e hk with ⟨rfl, rfl⟩ | ⟨hk1, hk⟩
      · exact absurd rfl hS.1
      · have hlt := (E.mine k e b hk hS.2).2.1
        rcases get l f hl' with ⟨hli, hfd⟩ | ⟨hl1, hl'⟩
        · refine ⟨by rw [hli, hρi]; show g ≠ b; omega, fun h => h.1 hli⟩
        · obtain ⟨a1, a2⟩ := E.apart _ _ b _ _ hk hS.2 hl' hne
          exact ⟨by rw [hρk l hl1]; exact a1, fun h => a2 h.2⟩

theorem wfI {a : Int} (h : -9223372036854775808 ≤ a ∧ a ≤ 9223372036854775807) : (Lit.int .i64 a).wf = true := by
  have h1 : IntKind.min .i64 = -9223372036854775808 := by decide
  have h2 : IntKind.max .i64 = 9223372036854775807 := by decide
  simp only [Lit.wf, h1, h2, Bool.and_eq_true, decide_eq_true_eq]; exact h
/-! ### The library's contracts -/
theorem Tryz.sortsA (m : Nat) : AnyZI.SortsIn Tryz.prog Tryz.sortedA_ren Fence.wide m :=
  ⟨fun blk off cap ss W hH hblk hsz => callsIn_wide.2 (AnyM.slices_Sort_int Tryz.sortA blk off cap ss W hH hblk hsz),
   fun p cap W => callsIn_wide.2 (AnyM.slices_Sort_int_none Tryz.sortA p cap W)⟩
abbrev keysFn : FuncId := 54
abbrev iterFn : FuncId := 99
abbrev sortedFn : FuncId := 53
theorem keys_w (mb : Option Nat) (W : World) : Calls Tryz.prog keysFn #[.map mb] W fun e w' => e = .returned (.func (.func iterFn) #[] #[.pointer (some ⟨W.heap.size, 0, none⟩)]) ∧ w' = W.alloc (.cells #[.map mb] 108) :=
  callsIn_wide.1 (AnyZI.keys_in Tryz.keysA Fence.wide 5 trivial rfl mb W)
theorem foldr_perm {H : Type} : ∀ l : List (Lit × DataW H), (l.foldr DataW.insert []).Perm l
  | [] => .nil
  | x :: l => (WideShapes.insert_perm x _).trans ((foldr_perm l).cons x)
abbrev leZ : Int → Int → Bool := fun x y => decide (x ≤ y)
/-- The keys of a map, ascending. -/
def sortK {α : Type} (D : List (Int × α)) : List Int := (D.map (·.1)).mergeSort leZ
theorem sortK_len {α : Type} (D : List (Int × α)) : (sortK D).length = D.length := by simp [sortK]
theorem sortK_perm {α : Type} (D : List (Int × α)) : (sortK D).Perm (D.map (·.1)) := List.mergeSort_perm _ _
theorem sorted_w {α : Type} {enc : α → Value} (D : List (Int × α)) (B b : Nat) (W : World) (hB : B < W.heap.size) (hc : W.cell? ⟨B, 0, none⟩ = some (.map (some b))) {es : Array MapEntry} {clock : Nat} (hb : W.heap[b]? = some (.map es clock)) (M : MapIs enc D es clock) (hl : D.length ≤ 100000) :
    Calls Tryz.prog sortedFn #[.func (.func iterFn) #[] #[.pointer (some ⟨B, 0, none⟩)]] W fun e w' => ∃ v, e = .returned v ∧ w'.ownsRow W.heap.size 3 1 v D.length ((sortK D).map encZ) ∧ (v = .slice none 0 0 ↔ D = []) ∧ Below W.heap.size W w' := by
  let R : Value → Option (DataW Unit × List MemPlace) := fun _ => some (.nil, [])
  let D0 : DataW Unit := .map ((es.toList.map (Go.WideElems.rg Tryz.prog 3 R)).foldr DataW.insert [])
  have hk := Tryz.underlying3
  have hrd : ∀ x ∈ es.toList, ∃ k, x.key = .int .i64 k ∧ Go.WideElems.rd Tryz.prog 3 R x = some (.int .i64 k, .nil) := fun x hx => by
    have : (x.key, x.val) ∈ es.toList.map (fun e => (e.key, e.val)) := List.mem_map.2 ⟨x, hx, rfl⟩
    rw [M.ents] at this
    obtain ⟨q, hq, e⟩ := List.mem_map.1 this
    have e1 := (Prod.mk.inj e).1.symm
    have hw := M.wf q hq
    refine ⟨q.1, e1, ?_⟩
    unfold Go.WideElems.rd
    rw [e1, Maps.keyOf_int_mk hk (wfI hw)]
    rfl
  have hsz := M.size
  have hown : W.ownsMap Tryz.prog 3 R b es.size D0 := ⟨es, clock, hb, ⟨by rw [hsz]; exact Nat.le_trans hl (by decide), M.stamped, fun x hx => by obtain ⟨k, _, h2⟩ := hrd x hx; exact ⟨_, h2⟩⟩, Nat.le_refl _, rfl⟩
  have hD0 : Maps.size D0 = D.length := by
    show ((es.toList.map (Go.WideElems.rg Tryz.prog 3 R)).foldr DataW.insert []).length = _
    rw [(foldr_perm _).length_eq]
    simp [hsz]
  have hkeys : (intKeys D0).Perm (D.map (·.1)) := by
    show (((es.toList.map (Go.WideElems.rg Tryz.prog 3 R)).foldr DataW.insert []).map fun p => Go.intOf p.1).Perm _
    refine ((foldr_perm _).map _).trans ?_
    have e1 : ((es.toList.map (Go.WideElems.rg Tryz.prog 3 R)).map fun p => Go.intOf p.1) = (es.toList.map (fun e => e.key)).map fun v => match v with | .int _ a => a | _ => 0 := by
      rw [List.map_map, List.map_map]
      refine List.map_congr_left fun x hx => ?_
      obtain ⟨k, h1, h2⟩ := hrd x hx
      simp only [Function.comp_def, Go.WideElems.rg, h2, h1, Option.getD_some, Go.intOf]
    have e2 : es.toList.map (fun e => e.key) = D.map fun q => (.int .i64 q.1 : Value) := by
      have := congrArg (fun l => l.map Prod.fst) M.ents
      simpa [List.map_map, Function.comp_def] using this
    rw [e1, e2, List.map_map]
    exact .refl _
  have hseq := AnyZI.keys_gives (ρ := Tryz.keysA_ren) { Tryz.keysA with } Fence.wide 2 trivial rfl (by omega) B b es.size D0 W hB hc hown
  have cS := AnyZI.sorted_in Tryz.sortedA Fence.wide 5 trivial trivial trivial trivial rfl (by omega) (Tryz.sortsA _) (enters_of Tryz.func98 (by kernel_rfl) rfl) iterFn #[.pointer (some ⟨B, 0, none⟩)] trivial (enters_of Tryz.func99 (by kernel_rfl) rfl) _ _ (by rw [hD0]; exact Nat.le_trans hl (by decide)) (by rw [hD0]; omega) W hseq
  refine (callsIn_wide.1 cS).mono ?_
  rintro e w' ⟨v, ss, rfl, hS, hrow, hnil, hbel⟩
  have hp : ss.Perm (D.map (·.1)) := hS.trans hkeys
  have hlen : ss.length = D.length := by rw [hp.length_eq]; simp
  have hsort : ss.mergeSort (fun x y => decide (x ≤ y)) = sortK D := mergeSort_of_perm_i hp
  rw [hsort, hlen] at hrow
  refine ⟨v, rfl, hrow, hnil.trans ⟨fun h => ?_, fun h => ?_⟩, hbel⟩
  · rw [h] at hlen; exact List.length_eq_zero_iff.1 hlen.symm
  · rw [h] at hlen; exact List.length_eq_zero_iff.1 hlen

/-! ### .. at the walks -/
abbrev seqV (k : Nat) : Value := .func (.func iterFn) ⟨[]⟩ ⟨[.pointer (some ⟨k, 0, some 0⟩)]⟩
abbrev keyC (i : Nat) : Chunk := @Chunk.mk atZ true 1 [(0, 1, .map (some i))]
theorem cKeysT (i k : Nat) (c : Chunk) (h : List (Option Chunk)) (hi : h[i]? = some (some c)) (hk : h[k]? = some none) : CallOK Tryz.prog keysFn [.map (some i)] h (seqV k) [(k, keyC i)] [i] := fun h₂ hr hm X ρ w xs H hx => by
  have hi2 : h₂[i]? = some (some c) := (hr i (by simp)).trans hi
  have hk2 : h₂[k]? = some none := (hm _ (List.mem_singleton.2 rfl)).trans hk
  obtain ⟨x, rfl⟩ : ∃ x, xs = [x] := by
    match xs, hx with
    | [x], _ => exact ⟨x, rfl⟩
  have hx1 : x = .map (some (ρ i).1) := hx.1.self.symm
  refine .inr ⟨Tryz.call54 _ w, ?_⟩
  rw [hx1]
  refine (keys_w (some (ρ i).1) w).mono ?_
  rintro e w' ⟨rfl, rfl⟩
  obtain ⟨ρ', ha, hρ, H'⟩ := H.alloc (c := ⟨true, 1, [(0, 1, .map (some i))]⟩) (xs := #[.map (some (ρ i).1)]) (ty := 108) hk2 rfl (fun j y hy => by
    cases j with
    | zero =>
      simp at hy; subst hy
      exact fun r hr => by
        have := hr i ⟨c, hi2⟩
        show den1 r (.map (some i)) = _
        simp [den1, den0, this]
    | succ j => simp at hy)
  have H3 := H'.setX (k := k) (List.getElem?_set_self (List.getElem?_eq_some_iff.1 hk2).1) atZ fun S hS => ⟨by rw [hρ], hS⟩
  rw [List.set_set] at H3
  refine ⟨_, rfl, ρ', ha, H3, fun r hr => ?_⟩
  have := hr k ⟨keyC i, by show (h₂.set k _)[k]? = _; rw [List.getElem?_set_self (List.getElem?_eq_some_iff.1 hk2).1]⟩
  simp [den, den2, den1, den0, denA, this, hρ]
/-- Some numbers, one behind the other. -/
abbrev intsC (l : List Int) : Chunk := ⟨true, l.length, [(0, l.length, .agg ⟨l.map (Value.int .i64)⟩)]⟩
theorem intsC_f {l : List Int} {j : Nat} {x : Int} (h : l[j]? = some x) : (intsC l).f j = .int .i64 x := by
  have hl := (List.getElem?_eq_some_iff.1 h).1
  show cellOf [(0, l.length, .agg ⟨l.map (Value.int .i64)⟩)] j = _
  rw [cellOf_cons, if_pos (by omega)]
  simp [cellIn, h]
def sortR {α : Type} (D : List (Int × α)) (k : Nat) (v : Value) (ms : List (Nat × Chunk)) : Prop :=
  (D = [] ∧ v = .slice none 0 0 ∧ ms = []) ∨ ∃ cap, 0 < D.length ∧ D.length ≤ cap ∧ v = .slice (some ⟨k, 0, some 0⟩) D.length cap ∧ ms = [(k, intsC (sortK D))]
theorem cSortedT {α : Type} {enc : α → Value} (D : List (Int × α)) (i l k : Nat) (c : Chunk) (h : List (Option Chunk)) (hi : h[i]? = some (some c)) (hc : c.x = mapX enc D) (hl : h[l]? = some (some (keyC i))) (hk : h[k]? = some none) (hlen : D.length ≤ 100000) : CallAll Tryz.prog sortedFn [seqV l] h (sortR D k) := fun X ρ w xs H hx => by
  obtain ⟨x, rfl⟩ : ∃ x, xs = [x] := by
    match xs, hx with
    | [x], _ => exact ⟨x, rfl⟩
  obtain ⟨S, E⟩ := H.ext
  have hz : (ρ l).2 = 0 := (E.inv l _ hl).1
  have hx1 : x = .func (.func iterFn) #[] #[.pointer (some ⟨(ρ l).1, 0, none⟩)] := by
    rw [← hx.1.self]; simp [den, den2, den1, den0, denA, hz]
  obtain ⟨hS, es, clock, hb, M⟩ : (∀ b, S i b ↔ b = (ρ i).1) ∧ ∃ es clock, w.heap[(ρ i).1]? = some (.map es clock) ∧ MapIs enc D es clock := by have := E.inv i c hi; rw [hc] at this; exact this
  have hcell : w.cell? ⟨(ρ l).1, 0, none⟩ = some (.map (some (ρ i).1)) := by
    obtain ⟨y, hy, hd⟩ := H.cell l _ hl 0 (by show 0 < 1; decide)
    rw [hz] at hy
    have := hd.self
    rw [hy, ← this]
    rfl
  refine .inr ⟨Tryz.call53 _ w, ?_⟩
  rw [hx1]
  refine (sorted_w D (ρ l).1 (ρ i).1 w (H.lt l _ hl) hcell hb M hlen).mono ?_
  rintro e w' ⟨v, rfl, ⟨_, hrow⟩, hnil, hbel⟩
  rcases hrow with ⟨rfl, h0⟩ | ⟨g, cap, cur, rfl, hbase, hg, hcap, hmax, hsz, htake⟩
  · exact ⟨_, rfl, .slice none 0 0, [], ρ, .inl ⟨List.length_eq_zero_iff.1 h0, rfl, rfl⟩, AgreeOn.refl _ _, H.frame hbel, fun r _ => rfl⟩
  · have hpos : 0 < D.length := by
      rcases Nat.eq_zero_or_pos D.length with h0 | h0
      · have := hnil.2 (List.length_eq_zero_iff.1 h0); cases this
      · exact h0
    have hlt : g < w'.heap.size := (Array.getElem?_eq_some_iff.1 hg).1
    rw [Nat.mul_one] at htake hsz
    obtain ⟨ρ', ha, hρ, H'⟩ := HOK.newB (d := intsC (sortK D)) H hk hbel ⟨hbase, hlt⟩ rfl (fun j hj => by
      have hj : j < (sortK D).length := hj
      have e1 : (sortK D)[j]? = some (sortK D)[j] := by simp [hj]
      rw [intsC_f e1]
      refine ⟨?_, rfl, by simp [World.frozen?, hg]⟩
      have h1 : (cur.toList.take D.length)[j]? = ((sortK D).map encZ)[j]? := by rw [htake]
      rw [List.getElem?_take_of_lt (by rw [← sortK_len D]; exact hj)] at h1
      simp only [World.cell?, hg]
      simp only [Option.isSome_none, Bool.false_eq_true, if_false]
      rw [← Array.getElem?_toList, h1]
      simp [hj])
    refine ⟨_, rfl, .slice (some ⟨k, 0, some 0⟩) D.length cap, [(k, intsC (sortK D))], ρ', .inr ⟨cap, hpos, hcap, rfl, rfl⟩, ha, H', fun r hr => ?_⟩
    have := hr k ⟨intsC (sortK D), by show (h.set k _)[k]? = _; rw [List.getElem?_set_self (List.getElem?_eq_some_iff.1 hk).1]⟩
    simp [den, den2, den1, den0, denA, this, hρ]
end Go.Proofs.YtijiggkhnpmaiaaGreat


/-
  Loops in whose rounds a stretch of memory gives way to a new one: at the head the new one has the old one's number.
-/
set_option linter.unusedVariables false
set_option linter.unusedSimpArgs false
namespace Go.Proofs.YtijiggkhnpmaiaaGreat.Sx
open Go Go.RowKit

/-- The number with the callee of a number at the head. -/
def ixI : List (Nat × Nat) → Nat → Option Nat
  | [], _ => none
  | (k, i) :: r, n => match Nat.beq i n with
    | true => some k
    | false => ixI r n
def ixFree : List (Nat × Nat) → Nat → Nat → Bool
  | [], _, _ => true
  | (k, i) :: r, a, b => (!Nat.beq k a && !Nat.beq i b) && ixFree r a b
def ixNo : List (Nat × Nat) → Bool
  | [] => true
  | (k, i) :: r => ixFree r k i && ixNo r
def ixBase (ix : List (Nat × Nat)) : Nat → Bool
  | 0 => true
  | n + 1 => (match ixI ix n with
    | some k => Nat.beq k n
    | none => false) && ixBase ix n
def ixFil (h : List (Option Chunk)) : List (Nat × Nat) → Bool
  | [] => true
  | (_, i) :: r => filB h i && ixFil h r
theorem ixFree_out : ∀ {ix : List (Nat × Nat)} {a b : Nat}, ixFree ix a b = true → ∀ k i, (k, i) ∈ ix → k ≠ a ∧ i ≠ b
  | [], _, _, _, k, i, h => by simp at h
  | (x, y) :: r, a, b, h, k, i, hm => by
    simp only [ixFree, Bool.and_eq_true, Bool.not_eq_true'] at h
    rcases List.mem_cons.1 hm with e | hm
    · simp only [Prod.mk.injEq] at e
      obtain ⟨rfl, rfl⟩ := e
      exact ⟨fun e => by subst e; simp at h, fun e => by subst e; simp at h⟩
    · exact ixFree_out h.2 k i hm
theorem ixNo_out : ∀ {ix : List (Nat × Nat)}, ixNo ix = true → ∀ k i k' i', (k, i) ∈ ix → (k', i') ∈ ix → ((k = k' ∨ i = i') → k = k' ∧ i = i')
  | [], _, k, i, k', i', h, _, _ => by simp at h
  | (x, y) :: r, hn, k, i, k', i', h, h', he => by
    simp only [ixNo, Bool.and_eq_true] at hn
    rcases List.mem_cons.1 h with e | hm <;> rcases List.mem_cons.1 h' with e' | hm'
    · simp only [Prod.mk.injEq] at e e'; omega
    · simp only [Prod.mk.injEq] at e
      have := ixFree_out hn.1 k' i' hm'
      omega
    · simp only [Prod.mk.injEq] at e'
      have := ixFree_out hn.1 k i hm
      omega
    · exact ixNo_out hn.2 k i k' i' hm hm' he
theorem ixI_mem : ∀ {ix : List (Nat × Nat)} {i k : Nat}, ixI ix i = some k → (k, i) ∈ ix
  | [], _, _, h => by cases h
  | (a, b) :: r, i, k, h => by
    simp only [ixI] at h
    cases e : Nat.beq b i with
    | true =>
      rw [e] at h
      have := Nat.eq_of_beq_eq_true e
      simp only [Option.some.injEq] at h
      subst this h; simp
    | false => rw [e] at h; exact List.mem_cons_of_mem _ (ixI_mem h)
theorem ixI_of : ∀ {ix : List (Nat × Nat)} {i k : Nat}, ixNo ix = true → (k, i) ∈ ix → ixI ix i = some k
  | [], _, _, _, h => by simp at h
  | (a, b) :: r, i, k, hn, h => by
    simp only [ixI]
    cases e : Nat.beq b i with
    | true =>
      have e := Nat.eq_of_beq_eq_true e
      subst e
      have := (ixNo_out hn a b k b (by simp) h (.inr rfl)).1
      rw [this]
    | false =>
      simp only [ixNo, Bool.and_eq_true] at hn
      rcases List.mem_cons.1 h with e' | hm
      · simp only [Prod.mk.injEq] at e'
        obtain ⟨rfl, rfl⟩ := e'
        rw [Nat.beq_refl] at e; cases e
      · exact ixI_of hn.2 hm
theorem ixBase_out {ix : List (Nat × Nat)} : ∀ {n : Nat}, ixBase ix n = true → ∀ i, i < n → ixI ix i = some i
  | 0, _, i, h => absurd h (by omega)
  | n + 1, hb, i, h => by
    simp only [ixBase, Bool.and_eq_true] at hb
    rcases Nat.lt_or_ge i n with h1 | h1
    · exact ixBase_out hb.2 i h1
    · obtain rfl : i = n := by omega
      cases e : ixI ix i with
      | none => rw [e] at hb; simp at hb
      | some k => rw [e] at hb; simp only at hb; rw [Nat.eq_of_beq_eq_true hb.1]
theorem ixFil_out {h : List (Option Chunk)} : ∀ {ix : List (Nat × Nat)}, ixFil h ix = true → ∀ k i, (k, i) ∈ ix → Fil h i
  | [], _, k, i, hm => by simp at hm
  | (a, b) :: r, hb, k, i, hm => by
    simp only [ixFil, Bool.and_eq_true] at hb
    rcases List.mem_cons.1 hm with e | hm
    · simp only [Prod.mk.injEq] at e
      obtain ⟨rfl, rfl⟩ := e
      exact filB_iff.1 hb.1
    · exact ixFil_out hb.2 k i hm

/-- A stretch at the head, out of one at the round's end. -/
class XLe (c' c : Chunk) : Prop where
  le : c'.x = Ext.none ∨ c'.x = c.x
instance XLe.none {o : Bool} {n : Nat} {ps : List (Nat × Nat × Value)} {c : Chunk} : XLe (@Chunk.mk Ext.none o n ps) c := ⟨.inl rfl⟩
instance XLe.refl (c : Chunk) : XLe c c := ⟨.inr rfl⟩
structure ChunkReLe (ix : List (Nat × Nat)) (c' c : Chunk) : Prop where
  [x : XLe c' c]
  own : c'.own = true → c.own = true
  le : c'.n ≤ c.n
  re : ∀ j, j < c'.n → Re1 ix (c'.f j) (c.f j)
theorem ChunkReLe.same {ix : List (Nat × Nat)} {o : Bool} {n : Nat} {ps : List (Nat × Nat × Value)} (hp : ∀ j, j < n → plain1 (cellOf ps j) = true) : ChunkReLe ix ⟨o, n, ps⟩ ⟨o, n, ps⟩ := ⟨id, Nat.le_refl _, fun j hj => .plain (hp j hj)⟩
def renT (ix : List (Nat × Nat)) : List (Option Value) → List (Option Value) → Prop → Prop
  | [], [], A => A
  | _ :: a, none :: b, A => renT ix a b A
  | some u :: a, some v :: b, A => N (Obl (Re ix v u) (renT ix a b A))
  | _, _, _ => False
def renH (ix : List (Nat × Nat)) (h : List (Option Chunk)) : List (Option Chunk) → Nat → Prop → Prop
  | [], _, A => A
  | none :: b, i, A => renH ix h b (i + 1) A
  | some c' :: b, i, A => match ixI ix i with
    | some k => getH h k fun c => N (Obl (ChunkReLe ix c' c) (renH ix h b (i + 1) A))
    | none => False
def renK (n0 : Nat) (ix : List (Nat × Nat)) (st s : St) (A : Prop) : Prop :=
  match st, s with
  | ⟨t, h⟩, ⟨t', h'⟩ => match ixNo ix && ixBase ix n0 && ixFil h' ix with
    | true => renT ix t t' (renH ix h h' 0 A)
    | false => False
theorem renT_out {ix : List (Nat × Nat)} : ∀ {t t' : List (Option Value)} {A : Prop}, renT ix t t' A → t'.length = t.length ∧ (∀ (i : Nat) (v : Value), t'[i]? = some (some v) → ∃ u, t[i]? = some (some u) ∧ Re ix v u) ∧ A
  | [], [], A, h => ⟨rfl, fun i v hi => by simp at hi, h⟩
  | x :: a, none :: b, A, h => by
    have h : renT ix a b A := by cases x <;> exact h
    obtain ⟨h1, h2, h3⟩ := renT_out h
    refine ⟨by simp [h1], fun i v hi => ?_, h3⟩
    cases i with
    | zero => simp at hi
    | succ i => simpa using h2 i v (by simpa using hi)
  | some u :: a, some v :: b, A, h => by
    obtain ⟨e, h⟩ := N.out h
    obtain ⟨h1, h2, h3⟩ := renT_out h
    refine ⟨by simp [h1], fun i w hi => ?_, h3⟩
    cases i with
    | zero => simp at hi; subst hi; exact ⟨u, rfl, e⟩
    | succ i => simpa using h2 i w (by simpa using hi)
  | none :: a, some v :: b, A, h => h.elim
  | [], _ :: _, A, h => h.elim
  | _ :: _, [], A, h => by cases ‹Option Value› <;> exact h.elim
theorem renH_out {ix : List (Nat × Nat)} {h : List (Option Chunk)} : ∀ {b : List (Option Chunk)} {i0 : Nat} {A : Prop}, renH ix h b i0 A → (∀ (i : Nat) (c' : Chunk), b[i]? = some (some c') → ∃ k c, ixI ix (i0 + i) = some k ∧ h[k]? = some (some c) ∧ ChunkReLe ix c' c) ∧ A
  | [], i0, A, hh => ⟨fun i c' hi => by simp at hi, hh⟩
  | none :: b, i0, A, hh => by
    obtain ⟨h1, h2⟩ := renH_out (b := b) hh
    refine ⟨fun i c' hi => ?_, h2⟩
    cases i with
    | zero => simp at hi
    | succ i => have := h1 i c' (by simpa using hi); rwa [show i0 + 1 + i = i0 + (i + 1) from by omega] at this
  | some c0 :: b, i0, A, hh => by
    simp only [renH] at hh
    split at hh
    · rename_i k hk
      obtain ⟨c, hc, hh⟩ := getH_out hh
      obtain ⟨e, hh⟩ := N.out hh
      obtain ⟨h1, h2⟩ := renH_out (b := b) hh
      refine ⟨fun i c' hi => ?_, h2⟩
      cases i with
      | zero => simp at hi; subst hi; exact ⟨k, c, hk, hc, e⟩
      | succ i => have := h1 i c' (by simpa using hi); rwa [show i0 + 1 + i = i0 + (i + 1) from by omega] at this
    · exact hh.elim
theorem ren_out {n0 : Nat} {ix : List (Nat × Nat)} {st s : St} {A : Prop} (hh : renK n0 ix st s A) : Wkg n0 st s ∧ A := by
  obtain ⟨t, h⟩ := st
  obtain ⟨t', h'⟩ := s
  simp only [renK] at hh
  cases hb : ixNo ix && ixBase ix n0 && ixFil h' ix with
  | false => rw [hb] at hh; exact hh.elim
  | true =>
    rw [hb] at hh
    simp only [Bool.and_eq_true] at hb
    obtain ⟨a1, a2, hh⟩ := renT_out hh
    obtain ⟨b1, hA⟩ := renH_out hh
    refine ⟨fun X ρ a w hn R => ?_, hA⟩
    subst hn
    let ρ' : Nat → Nat × Nat := fun i => match ixI ix i with
      | some k => ρ k
      | none => ρ i
    have hρ : ∀ k i, (k, i) ∈ ix → ρ' i = ρ k := fun k i hm => by
      show (match ixI ix i with | some k => ρ k | none => ρ i) = ρ k
      rw [ixI_of hb.1.1 hm]
    have hr : ∀ r, AgreeOn (Fil h') ρ' r → ∀ k i, (k, i) ∈ ix → r i = ρ k := fun r hrr k i hm => (hrr i (ixFil_out hb.2 k i hm)).trans (hρ k i hm)
    have hat : ∀ i c', h'[i]? = some (some c') → ∃ k c, (k, i) ∈ ix ∧ h[k]? = some (some c) ∧ ChunkReLe ix c' c := fun i c' hi => by
      obtain ⟨k, c, h1, h2, h3⟩ := b1 i c' hi
      rw [Nat.zero_add] at h1
      exact ⟨k, c, ixI_mem h1, h2, h3⟩
    refine ⟨ρ', R.defers, R.size.trans a1.symm, fun i v hi => ?_, R.heap.evo, fun i hi => ?_, fun i c' hi => ?_, fun i c' hi j hj => ?_, fun i c' hi ho j hj => ?_, fun i c' j d' hi ho hj hne => ?_, ?_⟩
    · obtain ⟨u, hu, hre⟩ := a2 i v hi
      obtain ⟨x, hx, hd⟩ := R.slot i u hu
      exact ⟨x, hx, fun r hrr => (hre.den (hr r hrr)).trans hd.self⟩
    · have hm := ixI_mem (ixBase_out hb.1.2 i hi)
      exact ⟨ixFil_out hb.2 i i hm, (hρ i i hm).trans (R.heap.base i hi).2⟩
    · obtain ⟨k, c, hm, hc, _⟩ := hat i c' hi
      rw [hρ k i hm]; exact R.heap.lt k c hc
    · obtain ⟨k, c, hm, hc, L⟩ := hat i c' hi
      obtain ⟨x, hx, hd⟩ := R.heap.cell k c hc j (Nat.lt_of_lt_of_le hj L.le)
      rw [hρ k i hm]
      exact ⟨x, hx, fun r hrr => ((L.re j hj).den (hr r hrr)).trans hd.self⟩
    · obtain ⟨k, c, hm, hc, L⟩ := hat i c' hi
      rw [hρ k i hm]
      exact R.heap.own k c hc (L.own ho) j (Nat.lt_of_lt_of_le hj L.le)
    · obtain ⟨k, c, hm, hc, L⟩ := hat i c' hi
      obtain ⟨l, d, hm', hd, _⟩ := hat j d' hj
      rw [hρ k i hm, hρ l j hm']
      exact R.heap.sep k c l d hc (L.own ho) hd fun e => hne (ixNo_out hb.1.1 k i l j hm hm' (.inl e)).2
    · obtain ⟨S, E⟩ := R.heap.ext
      refine ⟨fun i b => ∃ k c', (k, i) ∈ ix ∧ h'[i]? = some (some c') ∧ c'.x ≠ Ext.none ∧ S k b, fun i c' hi => ?_, fun i c' b hi hS => ?_, fun i c' b j d' hi hS hj hne => ?_⟩
      · obtain ⟨k, c, hm, hc, L⟩ := hat i c' hi
        by_cases en : c'.x = Ext.none
        · rw [en]
          rintro b ⟨_, c'', _, hi', h1, _⟩
          rw [hi] at hi'
          obtain rfl : c' = c'' := by simpa using hi'
          exact h1 en
        · have : (fun b => ∃ k c', (k, i) ∈ ix ∧ h'[i]? = some (some c') ∧ c'.x ≠ Ext.none ∧ S k b) = S k := by
            funext b
            refine propext ⟨?_, fun hb => ⟨k, c', hm, hi, en, hb⟩⟩
            rintro ⟨k', _, hm', _, _, hb'⟩
            rw [(ixNo_out hb.1.1 k i k' i hm hm' (.inr rfl)).1]; exact hb'
          rw [this, hρ k i hm]
          rcases L.x.le with e | e
          · exact absurd e en
          · rw [e]; exact E.inv k c hc
      · obtain ⟨k, c, hm, hc, L⟩ := hat i c' hi
        obtain ⟨k', _, hm', _, _, hb'⟩ := hS
        rw [← (ixNo_out hb.1.1 k i k' i hm hm' (.inr rfl)).1] at hb'
        obtain ⟨h1, h2, h3⟩ := E.mine k c b hc hb'
        have := L.le
        exact ⟨by rw [hρ k i hm]; omega, h2, h3⟩
      · obtain ⟨k, c, hm, hc, L⟩ := hat i c' hi
        obtain ⟨k', _, hm', _, _, hb'⟩ := hS
        rw [← (ixNo_out hb.1.1 k i k' i hm hm' (.inr rfl)).1] at hb'
        obtain ⟨l, d, hml, hd, _⟩ := hat j d' hj
        obtain ⟨a1, a2⟩ := E.apart k c b l d hc hb' hd fun e => hne (ixNo_out hb.1.1 l j k i hml hm (.inl e)).2
        refine ⟨by rw [hρ l j hml]; exact a1, ?_⟩
        rintro ⟨l', _, hml', _, _, hbl⟩
        rw [← (ixNo_out hb.1.1 l j l' j hml hml' (.inr rfl)).1] at hbl
        exact a2 hbl

def NextR {α : Type} (p : α → Prop) (K : List (Nat × Nat) → α → Prop) : Prop := ∃ y ix, p y ∧ K ix y
theorem N.nextR {α : Type} {p : α → Prop} {K : List (Nat × Nat) → α → Prop} (y : α) (ix : List (Nat × Nat)) (hp : p y) (k : K ix y) : N (NextR p K) := N.mk ⟨y, ix, hp, k⟩
section
variable {P : Program} {G : Tys}
theorem nonesK_iff : ∀ {n : Nat} {K : List (Option Chunk) → Prop}, nonesK n K ↔ K (List.replicate n none)
  | 0, K => Iff.rfl
  | n + 1, K => nonesK_iff (n := n) (K := fun r => K (none :: r))
theorem appK_iff : ∀ {h : List (Option Chunk)} {n : Nat} {K : List (Option Chunk) → Prop}, appK h n K ↔ K (h ++ List.replicate n none)
  | [], n, K => nonesK_iff
  | x :: r, n, K => appK_iff (h := r) (n := n) (K := fun r' => K (x :: r'))
/-- As N.loop; what the head is told of may have other numbers at a round's end. Three more numbers are free at the head. -/
theorem N.loopR {n0 : Nat} {c : Code} {A : (Exit → St → Prop) → St → Prop} {Q : Exit → St → Prop} {t : List (Option Value)} {h : List (Option Chunk)} {α : Type} (inv : α → Prop) (μ : α → Nat) (sets : α → List (Nat × Value)) (hs : α → List (Nat × Chunk)) (x0 : α) (ix0 : List (Nat × Nat)) (h0 : inv x0)
    (hw : updK (maskC c) (sets x0) t 0 fun t' => appK h 3 fun hp => setM hp (hs x0) fun h' => renK n0 ix0 ⟨t, h⟩ ⟨t', h'⟩ (N True))
    (hr : ∀ x, inv x → updK (maskC c) (sets x) t 0 fun t' => appK h 3 fun hp => setM hp (hs x) fun h' => A (thenQ (fun s => N (NextR (fun y => inv y ∧ μ y < μ x) fun ix y => updK (maskC c) (sets y) t 0 fun t'' => appK h 3 fun hp => setM hp (hs y) fun h'' => renK n0 ix s ⟨t'', h''⟩ (N True))) Q) ⟨t', h'⟩) : N (LoopN P G n0 c A Q ⟨t, h⟩) := by
  refine N.mk ⟨α, fun x => ⟨updT (maskC c) (sets x) t 0, modH (h ++ List.replicate 3 none) (hs x)⟩, inv, μ, fun x s => N (NextR (fun y => inv y ∧ μ y < μ x) fun ix y => updK (maskC c) (sets y) t 0 fun t'' => appK h 3 fun hp => setM hp (hs y) fun h'' => renK n0 ix s ⟨t'', h''⟩ (N True)), fun x s hq => ?_, ⟨x0, h0, (ren_out (setM_iff.1 (appK_iff.1 (updK_iff.1 hw)))).1⟩, fun x hx => setM_iff.1 (appK_iff.1 (updK_iff.1 (hr x hx)))⟩
  obtain ⟨y, ix, ⟨hy, hlt⟩, hk⟩ := N.out hq
  exact ⟨y, hy, (ren_out (setM_iff.1 (appK_iff.1 (updK_iff.1 hk)))).1, hlt⟩
end
end Go.Proofs.YtijiggkhnpmaiaaGreat.Sx


/-
  Words for memory that the walks of this claim use: a stretch of cells that reads as a function; what is kept when blocks are laid; the frame of a law's row; a struct argument read cell by cell.
-/
set_option linter.unusedVariables false
namespace Go.Proofs.YtijiggkhnpmaiaaGreat
open Go.ChangeShapes Go.WideShapes Go.ChangeAt Go.RowKit

theorem ret_bool {a b : Bool} (h : a = b) : Ending.returned (.bool a) = .returned (.bool b) := by rw [h]
theorem ret_int {k : IntKind} {a b : Int} (h : a = b) : Ending.returned (.int k a) = .returned (.int k b) := by rw [h]

theorem add_block (a : Addr) (n : Nat) : (a.add n).block = a.block := by unfold Addr.add; split <;> rfl
theorem add_add (a : Addr) (i j : Nat) : (a.add i).add j = a.add (i + j) := by
  unfold Addr.add
  by_cases hi : i = 0
  · by_cases hj : j = 0 <;> simp [hi, hj]
  · by_cases hj : j = 0
    · simp [hi, hj]
    · simp [hi, hj, Nat.add_assoc]
theorem add_zero_at (b i : Nat) : (⟨b, 0, none⟩ : Addr).add i = ⟨b, i, none⟩ := by
  unfold Addr.add
  split
  · subst i; rfl
  · simp

/-- The first m cells at A hold f, and they lie below block B (of no cells nothing is said). -/
def Seg (w : World) (B : Nat) (A : Option Addr) (m : Nat) (f : Nat → Value) : Prop :=
  0 < m → ∃ x, A = some x ∧ x.block < B ∧ ∀ j, j < m → w.cell? (x.add j) = some (f j)

section
variable {w w' : World} {B B' m : Nat} {A : Option Addr} {f : Nat → Value}
theorem Seg.zero : Seg w B A 0 f := fun h => absurd h (by omega)
theorem Seg.keep (h : Seg w B A m f) (hk : ∀ p : Addr, p.block < B → w'.cell? p = w.cell? p) : Seg w' B A m f := fun hm => by
  obtain ⟨x, e, hb, hc⟩ := h hm
  exact ⟨x, e, hb, fun j hj => (hk _ (by rw [add_block]; exact hb)).trans (hc j hj)⟩
theorem Seg.below (h : Seg w B A m f) (hb : Below B w w') : Seg w' B A m f := h.keep fun _ hp => hb.cell hp
theorem Seg.more (h : Seg w B A m f) (hB : B ≤ B') : Seg w B' A m f := fun hm => by
  obtain ⟨x, e, hb, hc⟩ := h hm
  exact ⟨x, e, by omega, hc⟩
theorem Seg.same {g : Nat → Value} (h : Seg w B A m f) (e : ∀ j, j < m → f j = g j) : Seg w B A m g := fun hm => by
  obtain ⟨x, ex, hb, hc⟩ := h hm
  exact ⟨x, ex, hb, fun j hj => by rw [hc j hj, e j hj]⟩
theorem Seg.less {n : Nat} (h : Seg w B A m f) (e : n ≤ m) : Seg w B A n f := fun hm => by
  obtain ⟨x, ex, hb, hc⟩ := h (by omega)
  exact ⟨x, ex, hb, fun j hj => hc j (by omega)⟩
theorem Seg.alloc (h : Seg w B A m f) (hB : B ≤ w.heap.size) (o : Obj) : Seg (w.alloc o) B A m f := h.below ((Below.refl _ _).alloc hB o)
theorem Seg.drew (h : Seg w B A m f) : Seg w.drew B A m f := h
end

/-- A new block of cells. -/
theorem Seg.new (w : World) (ty : TypeId) (vs : Array Value) (b : Nat) (hb : b = w.heap.size) (f : Nat → Value) (hf : ∀ j, j < vs.size → vs[j]? = some (f j)) :
    Seg (w.alloc (.cells vs ty)) (w.heap.size + 1) (some ⟨b, 0, none⟩) vs.size f := fun _ =>
  ⟨_, rfl, by simp [hb], fun j hj => by rw [add_zero_at, World.cell?_alloc_at _ _ _ _ hb]; exact hf j hj⟩

/-- A row of the call's own. -/
theorem Seg.of_own {w : World} {base : Nat} {e : TypeId} {size n c : Nat} {A : Option Addr} {xs : List Value} (h : w.ownsRow base e size (.slice A n c) n xs) :
    Seg w w.heap.size A xs.length (fun j => xs.getD j undef) := fun hm => by
  obtain ⟨h1, h2⟩ := h
  rcases h2 with ⟨_, rfl⟩ | ⟨g, cap, cur, hv, _, hh, hnc, _, hcs, hx⟩
  · simp at h1; rw [h1] at hm; exact absurd hm (by simp)
  have hA : A = some ⟨g, 0, none⟩ := by injection hv
  subst hA
  have hlt : g < w.heap.size := by
    rcases Nat.lt_or_ge g w.heap.size with hlt | hge
    · exact hlt
    · rw [Array.getElem?_eq_none hge] at hh; cases hh
  refine ⟨_, rfl, hlt, fun j hj => ?_⟩
  have hj' : j < n * size := by omega
  rw [add_zero_at]
  have hc : w.cell? ⟨g, j, none⟩ = cur[j]? := by simp [World.cell?, hh]
  show _ = some (xs.getD j undef)
  rw [hc, List.getD_eq_getElem?_getD, List.getElem?_eq_getElem hj]
  have : cur.toList[j]? = xs[j]? := by rw [← hx, List.getElem?_take, if_pos hj']
  rw [List.getElem?_eq_getElem hj] at this
  simpa using this

theorem own_slice {w : World} {base : Nat} {e : TypeId} {size n : Nat} {v : Value} {xs : List Value} (h : w.ownsRow base e size v n xs) : ∃ A c, v = .slice A n c := by
  rcases h.2 with ⟨rfl, rfl⟩ | ⟨g, cap, cur, rfl, _⟩
  · exact ⟨_, _, rfl⟩
  · exact ⟨_, _, rfl⟩
theorem own_block_ge {w : World} {base : Nat} {e : TypeId} {size n : Nat} {v : Value} {xs : List Value} (h : w.ownsRow base e size v n xs) : ∀ g, v.ownBlock = some g → base ≤ g := by
  intro g hg
  rcases h.2 with ⟨rfl, _⟩ | ⟨g', cap', cur, rfl, hge, _⟩
  · simp [Value.ownBlock] at hg
  · simp [Value.ownBlock] at hg; omega

/-- The one cell of a new block. -/
theorem cell_one_at (w : World) (x : Value) (t : TypeId) (b : Nat) (hb : b = w.heap.size) : ∀ j u, [x][j]? = some u → (w.alloc (.cells #[x] t)).cell? ((⟨b, 0, none⟩ : Addr).add j) = some u := by
  subst hb; exact cell_one_new w x t

/-- The integers of a slice. -/
def ints (k : IntKind) (zs : List Int) : Nat → Value := fun j => .int k (zs.getD j 0)

theorem Seg.ints_of_own {w : World} {base : Nat} {e : TypeId} {n c : Nat} {A : Option Addr} {k : IntKind} {zs : List Int} (h : w.ownsRow base e 1 (.slice A n c) n (zs.map (Value.int k))) :
    Seg w w.heap.size A zs.length (ints k zs) := by
  have := Seg.of_own h
  rw [List.length_map] at this
  refine this.same fun j hj => ?_
  simp [ints, List.getD_eq_getElem?_getD, hj]

/-- A literal slice of integers. -/
theorem Seg.ints_new (w : World) (ty : TypeId) (k : IntKind) (zs : List Int) (vs : Array Value) (b : Nat) (hb : b = w.heap.size) (hv : vs = (zs.map (Value.int k)).toArray) :
    Seg (w.alloc (.cells vs ty)) (w.heap.size + 1) (some ⟨b, 0, none⟩) zs.length (ints k zs) := by
  subst hv
  have := Seg.new w ty ((zs.map (Value.int k)).toArray) b hb (ints k zs) (fun j hj => by
    simp at hj
    simp [ints, List.getD_eq_getElem?_getD, hj])
  simpa using this

/-! ### The frame of a law: it answers true and writes nothing that was there -/

section
variable {H : Type} {enc : TypeId × Value → H} {P : Program}

theorem trodAll_kept (hl : laidOutB P = true) {W W' : World} (bel : Below W.heap.size W W') : ∀ (ts : List TypeId) (vs : List Value) (ds : List (DataW H)) (p : List MemPlace),
    (∀ t ∈ ts, P.readableRec t = true ∧ t < P.types.size) → DataW.TrodAll enc P W 0 (fun _ => true) true ts vs ds p → DataW.TrodAll enc P W' 0 (fun b => decide (b < W.heap.size)) true ts vs ds p
  | [], vs, ds, p, _, h => by
    obtain ⟨rfl, rfl, rfl⟩ := trodAll_nil h
    exact trodAll_mk0
  | t :: ts, vs, ds, p, ht, h => by
    obtain ⟨v, vs, d, ds, p, q, rfl, rfl, rfl, h0, hr⟩ := trodAll_cons h
    have lt : ∀ x ∈ p, x.block < W.heap.size := by obtain ⟨m, hm⟩ := h0; exact DataW.trod_lt m _ _ _ hm
    exact trodAll_cons_mk (Below.trod hl (ht t (by simp)).1 (ht t (by simp)).2 h0 bel lt) (trodAll_kept hl bel ts vs ds q (fun x hx => ht x (by simp [hx])) hr)

theorem trodAll_len : ∀ (ts : List TypeId) (vs : List Value) (ds : List (DataW H)) (p : List MemPlace) {w : World} {base : Nat} {sp : Nat → Bool} {hd : Bool}, DataW.TrodAll enc P w base sp hd ts vs ds p → ds.length = ts.length
  | [], vs, ds, p, _, _, _, _, h => by
    obtain ⟨rfl, rfl, rfl⟩ := trodAll_nil h
    rfl
  | t :: ts, vs, ds, p, _, _, _, _, h => by
    obtain ⟨v, vs, d, ds, p, q, rfl, rfl, rfl, h0, hr⟩ := trodAll_cons h
    simp [trodAll_len ts vs ds q hr]
end

/-- A law's row, from its walk: for whatever arguments that read as data the call answers true and nothing that was there has turned. -/
theorem law_lifted {H : Type} {enc : TypeId × Value → H} {C : Checked} {os : Os} {f : FuncId} {fn : Func} {s : ChangeSpec} {tb : TypeId}
    (own : ownKnob C.prog.godebug = none) (started : os.Started) (noInit : C.prog.inits.idxOf? f = none) (hfn : C.prog.funcs[f]? = some fn)
    (hl : laidOutB C.prog = true) (hr : fn.params.toList.all (fun t => C.prog.readableRec t && decide (t < C.prog.types.size)) = true)
    (hres : fn.resultTypes = #[tb]) (hb : C.prog.underlying tb = some .bool) (hvars : s.vars = [])
    (hspec : ∀ ds : List (DataW H), ds.length = fn.params.toList.length → s.fn H ds = { results := [.lit (.bool true)], args := ds })
    (witness : ∃ (w : World) (tape : Tape) (i : Input), w.os = os ∧ (w.forCall tape i).Shaped C.prog ∧ i.vars = [] ∧ Input.okWide C.prog (w.forCall tape i) .any w.heap.size f i ∧
      s.pre6 enc C.prog fn [] false (w.forCall tape i).memory i.args ∧ ({} : Assume).holds C.prog (lone (Frame.enter C.prog f i.args .normal) [] (w.forCall tape i)))
    (walk : ∀ (W : World) (base : Nat) (args : Array Value) (ds : List (DataW H)) (p : List MemPlace),
      (∀ (j : Nat) t v, fn.params[j]? = some t → args[j]? = some v → Value.okWide C.prog W .any base t v) →
      DataW.TrodAll enc C.prog W 0 (fun _ => true) true fn.params.toList args.toList ds p →
      (DataW.weightsEach C.prog fn.params.toList ds).all (· ≤ reachBytes) = true →
      Calls C.prog f args W fun e W' => e = .returned (.bool true) ∧ Below W.heap.size W W') :
    ReturnsInHanded {} C os f .any (s.pre6 enc C.prog fn [] false) (s.post enc C.prog fn false true false false) := by
  refine returnsInHanded_of_change_sized (C := C) own started noInit hfn witness ?_
  intro W base args ds gs before hval hW _ hsz _
  have hW' := hW
  obtain ⟨p, q, hA, hV, rfl, hfz, hnd⟩ := hW
  rw [hvars] at hV
  obtain ⟨rfl, rfl⟩ := trodVars_none hV
  have hvt : s.plain.varTypes C.prog = [] := by simp [ChangeSpec.plain, DataSpec.varTypes, hvars]
  rw [hvt] at hsz
  simp only [List.append_nil] at hsz
  refine (walk W base args ds p hval hA hsz).mono fun e W' ⟨he, bel⟩ => ?_
  subst he
  have hlen : ds.length = fn.params.toList.length := trodAll_len _ _ _ _ hA
  have hs := hspec ds hlen
  refine ⟨_, rfl, ds, [], p ++ [], [], p, [], hW', ?_, ?_, ?_, bel.frame _, fun h => by cases h⟩
  · rw [List.append_nil, hs, hres]
    exact trodAll_mk1 (shut_bool hb _)
  · rw [List.append_nil, hs]
    refine trodAll_kept hl bel _ _ _ _ (fun t ht => ?_) hA
    have := List.all_eq_true.1 hr t ht
    simpa using this
  · rw [List.append_nil, hs, hvars]
    simp [DataW.TrodVars]

/-! ### A struct (of structs, of arrays) read cell by cell -/

/-- The type of the cell j of a value of type t. -/
def leafAt (P : Program) : Nat → TypeId → Nat → Option TypeId
  | 0, _, _ => none
  | d + 1, t, j =>
    match P.underlying t with
    | some (.struct fs) => (fs.toList.find? fun f => decide (f.offset ≤ j) && decide (j < f.offset + P.cellsOf f.type)).bind fun f => leafAt P d f.type (j - f.offset)
    | some (.array n e) => if j < n * P.cellsOf e then leafAt P d e (j % P.cellsOf e) else none
    | _ => if j = 0 then some t else none

section
variable {H : Type} {enc : TypeId × Value → H} {P : Program} {w : World} {base : Nat} {spare : Nat → Bool} {held : Bool}

theorem leaf_read : ∀ (d : Nat) (t : TypeId) (j : Nat) (l : TypeId) (fuel : Nat) (cs : List Value) (x : DataW H × List MemPlace), leafAt P d t j = some l → j < cs.length → DataW.trod enc P w base spare held fuel t cs = some x →
    ∃ (v : Value) (y : DataW H × List MemPlace) (n : Nat), cs[j]? = some v ∧ DataW.trod enc P w base spare held n l [v] = some y
  | 0, _, _, _, _, _, _, h, _, _ => by simp [leafAt] at h
  | d + 1, t, j, l, fuel, cs, x, h, hj, ht => by
    unfold leafAt at h
    split at h
    · rename_i fs hu
      obtain ⟨f, hf, hl⟩ := Option.bind_eq_some_iff.1 h
      obtain ⟨xs, n, hn, hx, hlen, hxl, hg⟩ := DataW.trod_struct hu ht
      have hp := List.find?_some hf
      simp only [Bool.and_eq_true, decide_eq_true_eq] at hp
      obtain ⟨i, hi, hie⟩ := List.getElem_of_mem (List.mem_of_find?_eq_some hf)
      have hfi : fs[i]? = some f := by simp at hi; rw [Array.getElem?_eq_getElem hi]; simpa using hie
      have hgi := hg i f hfi
      have hxi : i < xs.length := by rw [hxl]; simpa using hi
      rw [List.getElem?_eq_getElem hxi] at hgi
      obtain ⟨v, y, n', hv, hy⟩ := leaf_read d f.type (j - f.offset) l n _ _ hl (by simp; omega) hgi
      refine ⟨v, y, n', ?_, hy⟩
      rw [List.getElem?_take, List.getElem?_drop] at hv
      split at hv
      · rwa [show f.offset + (j - f.offset) = j from by omega] at hv
      · cases hv
    · rename_i n e hu
      split at h
      · rename_i hjn
        obtain ⟨xs, n', hn, hx, hlen, hxl, hg⟩ := DataW.trod_array hu ht
        have hc : 0 < P.cellsOf e := by
          rcases Nat.eq_zero_or_pos (P.cellsOf e) with h0 | h0
          · rw [h0] at hjn; omega
          · exact h0
        have hq : j / P.cellsOf e < n := (Nat.div_lt_iff_lt_mul hc).2 hjn
        have hgi := hg (j / P.cellsOf e) hq
        rw [List.getElem?_eq_getElem (by omega)] at hgi
        have hm := Nat.mod_lt j hc
        have hd := Nat.div_add_mod j (P.cellsOf e)
        have hd' : j / P.cellsOf e * P.cellsOf e + j % P.cellsOf e = j := by rw [Nat.mul_comm]; exact hd
        obtain ⟨v, y, n'', hv, hy⟩ := leaf_read d e (j % P.cellsOf e) l n' _ _ h (by simp; omega) hgi
        refine ⟨v, y, n'', ?_, hy⟩
        rw [List.getElem?_take, if_pos hm, List.getElem?_drop, hd'] at hv
        exact hv
      · cases h
    · split at h
      · rename_i hj0
        subst hj0
        obtain rfl : t = l := by simpa using h
        match cs, hj with
        | [v], _ => exact ⟨v, x, fuel, rfl, ht⟩
        | v :: v' :: r, _ =>
          exfalso
          cases fuel with
          | zero => simp [DataW.trod] at ht
          | succ n =>
            unfold DataW.trod at ht
            split at ht <;> simp_all
      · cases h
end

/-! ### A slice of structs that came in -/
section
variable {H : Type} {enc : TypeId × Value → H} {P : Program} {w : World}

theorem open_rows {t e : TypeId} {C : Nat} {v : Value} {d : DataW H} {p : List MemPlace} (ht : P.underlying t = some (.slice e)) (hC : P.cellsOf e = C) (h : DataW.Trod enc P w 0 (fun _ => true) true t v d p) (hsh : ∃ A len cap, v = .slice A len cap) :
    ∃ (A : Option Addr) (len cap : Nat) (f : Nat → Value), v = .slice A len cap ∧ len ≤ cap ∧ cap ≤ maxLen ∧ ((len = 0 ∧ d = .nil) ∨ ∃ el sp, d = .slice el sp ∧ el.length = len) ∧ Seg w w.heap.size A (len * C) f ∧
      ∀ i, i < len → ∃ (x : DataW H × List MemPlace) (n : Nat) (cs : List Value), DataW.trod enc P w 0 (fun _ => true) true n e cs = some x ∧ cs.length = C ∧ ∀ j, j < C → cs[j]? = some (f (i * C + j)) := by
  obtain ⟨A, len, cap, rfl⟩ := hsh
  obtain ⟨fuel, hf⟩ := h
  rcases Deep.open_slice ht hf with ⟨hcs, hx⟩ | ⟨a, len', cap', m, n, D, Pl, hcs, hb, hl, hm, hmm, hx, hi⟩
  · simp [Value.cells] at hcs
    obtain ⟨rfl, rfl, rfl⟩ := hcs
    simp only [Prod.mk.injEq] at hx
    exact ⟨none, 0, 0, fun _ => undef, rfl, Nat.le_refl _, by simp, .inl ⟨rfl, hx.1⟩, by rw [Nat.zero_mul]; exact Seg.zero, fun i hi => absurd hi (by omega)⟩
  · simp [Value.cells] at hcs
    obtain ⟨rfl, rfl, rfl⟩ := hcs
    simp only [Prod.mk.injEq] at hx
    have hmc : m = cap := by simpa using hmm
    subst hmc
    rw [hC] at hi
    have hrow : ∀ i, i < len → ∃ cs', (cs'.length = C ∧ ∀ j, j < C → w.cell? ((a.add (i * C)).add j) = cs'[j]?) ∧ DataW.trod enc P w 0 (fun _ => true) true n e cs' = some (D i, Pl i) := fun i hil => by
      obtain ⟨cs', hc, ht'⟩ := hi i (by omega)
      obtain ⟨_, hcl, hat⟩ := World.cells?_some hc
      exact ⟨cs', ⟨hcl, hat⟩, ht'⟩
    refine ⟨some a, len, m, fun j => (w.cell? (a.add j)).getD undef, rfl, hl, hm, .inr ⟨_, _, hx.1, by simp⟩, ?_, ?_⟩
    · intro hpos
      have hcell : ∀ j, j < len * C → w.cell? (a.add j) = some ((w.cell? (a.add j)).getD undef) := by
        intro j hj
        have hC0 : 0 < C := by
          rcases Nat.eq_zero_or_pos C with h0 | h0
          · rw [h0] at hj; omega
          · exact h0
        obtain ⟨cs', ⟨hcl, hat⟩, _⟩ := hrow (j / C) ((Nat.div_lt_iff_lt_mul hC0).2 hj)
        have hr := Nat.mod_lt j hC0
        have hd := Nat.div_add_mod j C
        have := hat (j % C) hr
        rw [add_add, show j / C * C + j % C = j from by rw [Nat.mul_comm]; exact hd, List.getElem?_eq_getElem (by omega)] at this
        rw [this]; rfl
      refine ⟨a, rfl, ?_, hcell⟩
      have := World.block_lt_of_cell? _ _ (hcell 0 hpos)
      rwa [add_block] at this
    · intro i hil
      obtain ⟨cs', ⟨hcl, hat⟩, ht'⟩ := hrow i hil
      refine ⟨_, n, cs', ht', hcl, fun j hj => ?_⟩
      have := hat j hj
      rw [add_add, List.getElem?_eq_getElem (by omega)] at this
      show cs'[j]? = some ((w.cell? (a.add (i * C + j))).getD undef)
      rw [this, List.getElem?_eq_getElem (by omega)]; rfl
end

theorem slice_shape {P : Program} {W : World} {r : Reach} {base : Nat} {t e : TypeId} {v : Value} (ht : P.underlying t = some (.slice e)) (hv : Value.okWide P W r base t v) : ∃ A len cap, v = .slice A len cap := okWide_slice ht hv

/-- The number, the truth value of a cell. -/
def boolOf : Value → Bool | .bool b => b | _ => false

section
variable {H : Type} {enc : TypeId × Value → H} {P : Program} {w : World} {base : Nat} {spare : Nat → Bool} {held : Bool}
theorem leaf_int {d : Nat} {t : TypeId} {j : Nat} {l : TypeId} {fuel : Nat} {cs : List Value} {x : DataW H × List MemPlace} {k : IntKind} {u : Value} (hl : leafAt P d t j = some l) (hu : P.underlying l = some (.int k)) (hj : cs[j]? = some u)
    (h : DataW.trod enc P w base spare held fuel t cs = some x) : u = .int k (intOf u) ∧ (Lit.int k (intOf u)).wf = true := by
  have hjl : j < cs.length := (List.getElem?_eq_some_iff.1 hj).1
  obtain ⟨v, y, n, hv, hy⟩ := leaf_read d t j l fuel cs x hl hjl h
  rw [hj] at hv
  obtain rfl := Option.some.inj hv
  obtain ⟨z, hz, _, hw⟩ := DataW.trod_int hu hy
  obtain rfl : u = .int k z := by simpa using hz
  exact ⟨rfl, hw⟩
theorem leaf_bool {d : Nat} {t : TypeId} {j : Nat} {l : TypeId} {fuel : Nat} {cs : List Value} {x : DataW H × List MemPlace} {u : Value} (hl : leafAt P d t j = some l) (hu : P.underlying l = some .bool) (hj : cs[j]? = some u)
    (h : DataW.trod enc P w base spare held fuel t cs = some x) : u = .bool (boolOf u) := by
  have hjl : j < cs.length := (List.getElem?_eq_some_iff.1 hj).1
  obtain ⟨v, y, n, hv, hy⟩ := leaf_read d t j l fuel cs x hl hjl h
  rw [hj] at hv
  obtain rfl := Option.some.inj hv
  obtain ⟨z, hz, _⟩ := DataW.trod_bool hu hy
  obtain rfl : u = .bool z := by simpa using hz
  rfl
end

/-- A slice of integers that came in. -/
theorem open_intsl {H : Type} {enc : TypeId × Value → H} {P : Program} {w : World} {t e : TypeId} {k : IntKind} {v : Value} {d : DataW H} {p : List MemPlace} (ht : P.underlying t = some (.slice e)) (he : P.underlying e = some (.int k)) (hC : P.cellsOf e = 1)
    (h : DataW.Trod enc P w 0 (fun _ => true) true t v d p) (hsh : ∃ A len cap, v = .slice A len cap) :
    ∃ (A : Option Addr) (cap : Nat) (zs : List Int), v = .slice A zs.length cap ∧ ((zs = [] ∧ d = .nil) ∨ ∃ el sp, d = .slice el sp ∧ el.length = zs.length) ∧ Seg w w.heap.size A zs.length (ints k zs) ∧ ∀ n ∈ zs, (Lit.int k n).wf = true := by
  obtain ⟨A, len, cap, f, rfl, hl, hm, hd, hs, hrow⟩ := open_rows (C := 1) ht hC h hsh
  have key : ∀ i, i < len → f i = .int k (intOf (f i)) ∧ (Lit.int k (intOf (f i))).wf = true := by
    intro i hi
    obtain ⟨x, n, cs, ht', hcl, hc⟩ := hrow i hi
    have h0 := hc 0 (by omega)
    rw [Nat.mul_one, Nat.add_zero] at h0
    obtain ⟨z, hz, _, hw⟩ := DataW.trod_int he ht'
    rw [hz] at h0
    have : f i = .int k z := by simpa using h0.symm
    rw [this]
    exact ⟨rfl, hw⟩
  refine ⟨A, cap, (List.range len).map (fun i => intOf (f i)), by simp, ?_, ?_, ?_⟩
  · rcases hd with ⟨rfl, rfl⟩ | ⟨el, sp, rfl, he⟩
    · exact .inl ⟨rfl, rfl⟩
    · exact .inr ⟨el, sp, rfl, by simpa using he⟩
  · simp only [List.length_map, List.length_range]
    rw [Nat.mul_one] at hs
    refine hs.same fun j hj => ?_
    rw [(key j hj).1]
    simp [ints, List.getD_eq_getElem?_getD, hj, intOf]
  · intro n hn
    obtain ⟨i, hi, rfl⟩ := List.mem_map.1 hn
    exact (key i (by simpa using hi)).2

/-! ### What a cell holds behind a block, a draw, a store elsewhere -/
theorem cell_alloc_keep {w : World} {a : Addr} {o : Obj} {v : Value} (h : w.cell? a = some v) : (w.alloc o).cell? a = some v := by
  rw [World.cell?_alloc_lt w o a (World.block_lt_of_cell? _ _ h)]; exact h
theorem cell_drew_keep {w : World} {a : Addr} {v : Value} (h : w.cell? a = some v) : w.drew.cell? a = some v := h
theorem cell_set_keep {w : World} {a b : Addr} {u v : Value} (h : w.cell? a = some v) (hne : b ≠ a) : (w.setCell b u).cell? a = some v := by
  rw [World.cell?_setCell_other w b a u hne]; exact h
theorem cell_set_same {w : World} {b : Addr} {u v : Value} (h : w.cell? b = some v) : (w.setCell b u).cell? b = some u := World.cell?_setCell_same w b u h
theorem cell_below_keep {w w' : World} {B : Nat} {a : Addr} {v : Value} (h : w.cell? a = some v) (hb : Below B w w') (hB : w.heap.size ≤ B) : w'.cell? a = some v :=
  (hb.cell (Nat.lt_of_lt_of_le (World.block_lt_of_cell? _ _ h) hB)).trans h
theorem frozen_drew_keep {w : World} {a : Addr} (h : w.frozen? a = false) : w.drew.frozen? a = false := h

theorem below_drewN {B : Nat} {a w : World} (h : Below B a w) (n : Nat) : Below B a (w.drewN n) := ⟨h.os, h.tape, h.output, h.size, h.block⟩

theorem cell_alloc_at {w : World} {cs : Array Value} {t : TypeId} {b i : Nat} {v : Value} (hb : b = w.heap.size) (hv : cs[i]? = some v) : (w.alloc (.cells cs t)).cell? ⟨b, i, none⟩ = some v := by
  rw [World.cell?_alloc_at _ _ _ _ hb]; exact hv

end Go.Proofs.YtijiggkhnpmaiaaGreat


/-
  Arguments that lie in memory: slices of cells that hold no addresses, aas the evaluator takes them.
-/
set_option linter.unusedVariables false
set_option linter.unusedSimpArgs false
namespace Go.Proofs.YtijiggkhnpmaiaaGreat.Sx
open Go Go.RowKit

/-- A stretch that is only read. -/
abbrev segC (n : Nat) (f : Nat → Value) : Chunk := ⟨false, n, [(0, n, .agg ⟨segL n f⟩)]⟩
theorem seg_cell {o : Bool} {n : Nat} {f : Nat → Value} {j : Nat} (h : j < n) : (⟨o, n, [(0, n, .agg ⟨segL n f⟩)]⟩ : Chunk).f j = f j := by
  show cellOf _ _ = _
  rw [cellOf_cons, if_pos (by omega)]
  exact segL_get h
theorem reads_seg {o : Bool} {m p k : Nat} {f : Nat → Value} (vs : List Value) (hp : p + k ≤ m) (hl : vs.length = k) (hv : ∀ j, j < k → f (p + j) = vs.getD j undef) : Reads ⟨o, m, [(0, m, .agg ⟨segL m f⟩)]⟩ p true k (.agg ⟨vs⟩) :=
  ⟨hp, _, rfl, hl, fun j hj => by rw [seg_cell (by omega)]; exact hv j hj⟩
theorem reads_seg1 {o : Bool} {m p : Nat} {f : Nat → Value} {v : Value} (hp : p < m) (h1 : v.oneCell' = true) (hv : f p = v) : Reads ⟨o, m, [(0, m, .agg ⟨segL m f⟩)]⟩ p false 1 v :=
  ⟨hp, h1, by rw [seg_cell hp]; exact hv⟩

/-! ### Values without addresses: they stay what they are when a stretch is forgotten -/
def lit1 (v : Value) : Bool :=
  match v with
  | .int _ _ | .bool _ | .string _ | .float _ _ | .complex _ _ _ | .nilFunc | .nilIface => true
  | .pointer none | .slice none _ _ => true
  | _ => false
theorem lit1_plain {v : Value} (h : lit1 v = true) : plain1 v = true := by
  cases v with
  | pointer a => cases a <;> first | rfl | (simp [lit1] at h)
  | slice a l c => cases a <;> first | rfl | (simp [lit1] at h)
  | _ => first | rfl | (simp [lit1] at h)
theorem lit1_safe {h : List (Option Chunk)} {v : Value} (hv : lit1 v = true) : Safe1 h v := by
  cases v with
  | pointer a => cases a <;> first | trivial | (simp [lit1] at hv)
  | slice a l c => cases a <;> first | trivial | (simp [lit1] at hv)
  | _ => first | trivial | (simp [lit1] at hv)
theorem safe_agg {h : List (Option Chunk)} {l : List Value} (hl : l.all lit1 = true) : Safe h (.agg ⟨l⟩) := fun x hx => lit1_safe (List.all_eq_true.1 hl x hx)
theorem safe_seg {h : List (Option Chunk)} {o : Bool} {n : Nat} {f : Nat → Value} (hl : ∀ j, j < n → lit1 (f j) = true) : ∀ j, j < (⟨o, n, [(0, n, .agg ⟨segL n f⟩)]⟩ : Chunk).n → Safe1 h ((⟨o, n, [(0, n, .agg ⟨segL n f⟩)]⟩ : Chunk).f j) := fun j hj => by
  rw [seg_cell hj]; exact lit1_safe (hl j hj)
theorem safe_row {h : List (Option Chunk)} {o : Bool} {n : Nat} {l : List Value} (hn : l.length = n) (hl : l.all lit1 = true) : ∀ j, j < (⟨o, n, [(0, n, .agg ⟨l⟩)]⟩ : Chunk).n → Safe1 h ((⟨o, n, [(0, n, .agg ⟨l⟩)]⟩ : Chunk).f j) := fun j hj => by
  have hj : j < n := hj
  show Safe1 h (cellOf _ _)
  rw [cellOf_cons, if_pos (by omega)]
  simp only [cellIn, Nat.sub_zero, List.getD_eq_getElem?_getD]
  rw [List.getElem?_eq_getElem (by omega)]
  exact lit1_safe (List.all_eq_true.1 hl _ (List.getElem_mem _))
theorem rows_lit {n k : Nat} {f : Nat → Value} (hk : 0 < k) (h : ∀ i, i < n → ∀ j, j < k → lit1 (f (i * k + j)) = true) : ∀ j, j < n * k → lit1 (f j) = true := fun j hj => by
  have := h (j / k) ((Nat.div_lt_iff_lt_mul hk).2 hj) (j % k) (Nat.mod_lt _ hk)
  rwa [show j / k * k + j % k = j from by rw [Nat.mul_comm]; exact Nat.div_add_mod j k] at this

structure Seen where
  a : Addr
  n : Nat
  f : Nat → Value
def SeenIn (w : World) (s : Seen) : Prop := s.a.spot = none ∧ s.a.block < w.heap.size ∧ ∀ j, j < s.n → w.cell? (s.a.add j) = some (s.f j) ∧ plain1 (s.f j) = true
theorem SeenIn.of {w : World} {A : Option Addr} {m : Nat} {f : Nat → Value} (h : Seg w w.heap.size A m f) (hm : 0 < m) (hp : ∀ j, j < m → plain1 (f j) = true) : ∃ a, A = some a ∧ SeenIn w ⟨a, m, f⟩ := by
  obtain ⟨a, rfl, hb, hc⟩ := h hm
  refine ⟨a, rfl, ?_, hb, fun j hj => ⟨hc j hj, hp j hj⟩⟩
  have := hc 0 hm
  cases e : a.spot with
  | none => rfl
  | some s =>
    exfalso
    have e0 : a.add 0 = a := rfl
    rw [e0] at this
    unfold World.cell? at this
    rw [e] at this
    simp at this
    split at this <;> simp at this
theorem okWide_seen {P : Program} {W : World} {r : Reach} {base : Nat} {t e : TypeId} {a : Addr} {len cap : Nat} (ht : P.underlying t = some (.slice e)) (hv : Value.okWide P W r base t (.slice (some a) len cap)) : a.spot = none ∧ a.block < W.heap.size ∧ len ≤ cap := by
  simp only [Value.okWide, ht, Cell.okWide, Cell.ok, World.has] at hv
  obtain ⟨h1, h2, h3, h4, row, cells, h5, _⟩ := hv
  refine ⟨h4, ?_, h1⟩
  unfold World.shape? at h5
  cases e : W.heap[a.block]? with
  | none => rw [e] at h5; simp at h5
  | some o => exact (Array.getElem?_eq_some_iff.1 e).1
theorem okWide_nil {P : Program} {W : World} {r : Reach} {base : Nat} {t e : TypeId} {len cap : Nat} (ht : P.underlying t = some (.slice e)) (hv : Value.okWide P W r base t (.slice none len cap)) : len = 0 ∧ cap = 0 := by
  simp only [Value.okWide, ht, Cell.okWide, Cell.ok] at hv
  split at hv <;> simp_all
theorem SeenIn.some {P : Program} {w : World} {r : Reach} {base : Nat} {t e : TypeId} {a : Addr} {len cap m : Nat} {f : Nat → Value} (ht : P.underlying t = Option.some (.slice e)) (hv : Value.okWide P w r base t (.slice (Option.some a) len cap))
    (h : Seg w w.heap.size (Option.some a) m f) (hp : ∀ j, j < m → lit1 (f j) = true) : SeenIn w ⟨a, m, f⟩ := by
  obtain ⟨h1, h2, _⟩ := okWide_seen ht hv
  refine ⟨h1, h2, fun j hj => ⟨?_, lit1_plain (hp j hj)⟩⟩
  obtain ⟨x, hx, _, hc⟩ := h (Nat.lt_of_le_of_lt (Nat.zero_le _) hj)
  obtain rfl : a = x := by simpa using hx
  exact hc j hj
inductive ArgIs (sg : List Seen) : Value → Value → Prop
  | plain {v : Value} (h : plain2 v = true) : ArgIs sg v v
  | slice {k l c s0 n : Nat} {a : Addr} {f : Nat → Value} (h : sg[k]? = some ⟨a, n, f⟩) : ArgIs sg (.slice (some ⟨k, 0, some s0⟩) l c) (.slice (some a) l c)
def seenH (sg : List Seen) : List (Option Chunk) := sg.map fun s => some (segC s.n s.f)

section
variable {P : Program} {G : Tys}
theorem calls_args {f : FuncId} {fn : Func} {c : Code} {vs xs : List Value} {V : Value} (sg : List Seen) (w : World) (hG : TysOK P G) (hm : P.follows .mixedOrders = true) (hf : P.funcs[f]? = some fn) (hb : fn.body = some c)
    (hs : ∀ s ∈ sg, SeenIn w s) (hx : All2 (ArgIs sg) vs xs) (hV : plain3 V = true)
    (hwp : initK vs fn.ntmps fun t => wpC P G 0 c (bodyQ P G fn fun v _ => N (v = V)) ⟨t, seenH sg⟩) : Calls P f ⟨xs⟩ w fun e w' => e = .returned V ∧ Below w.heap.size w w' := by
  let ρ : Nat → Nat × Nat := fun k => match sg[k]? with
    | some s => (s.a.block, s.a.off)
    | none => (0, 0)
  have hρ : ∀ k s, sg[k]? = some s → ρ k = (s.a.block, s.a.off) := fun k s hk => by show (match sg[k]? with | some s => _ | none => _) = _; rw [hk]
  have getP : ∀ (k : Nat) (c : Chunk), (seenH sg)[k]? = some (some c) → ∃ s : Seen, sg[k]? = some s ∧ segC s.n s.f = c := fun k c hk => by
    simp only [seenH, List.getElem?_map] at hk
    cases e : sg[k]? with
    | none => rw [e] at hk; cases hk
    | some s => rw [e] at hk; exact ⟨s, rfl, by simpa using hk⟩
  have filH : ∀ (k : Nat) (s : Seen), sg[k]? = some s → Fil (seenH sg) k := fun k s hk => ⟨_, by simp only [seenH, List.getElem?_map, hk]; rfl⟩
  have addr : ∀ s ∈ sg, ∀ j, (⟨s.a.block, s.a.off + j, none⟩ : Addr) = s.a.add j := fun s hs' j => by
    obtain ⟨h1, _⟩ := hs s hs'
    obtain ⟨⟨b, o, sp⟩, n, f⟩ := s
    simp only at h1
    subst h1
    rw [add_at]
  have H : HOK ⟨w, fun _ => False, 0, ρ⟩ ρ (seenH sg) w := by
    refine ⟨Evo.refl _ _, fun i hi => absurd hi (by simp), fun k c hk => ?_, fun k c hk j hj => ?_, fun k c hk ho => ?_, fun k c l d hk ho => ?_, ExtOK.nil fun k c hk => ?_⟩
    · obtain ⟨s, hs', rfl⟩ := getP k c hk
      rw [hρ k s hs']; exact (hs s (List.mem_of_getElem? hs')).2.1
    · obtain ⟨s, hs', rfl⟩ := getP k c hk
      have hm' := List.mem_of_getElem? hs'
      have hj : j < s.n := hj
      obtain ⟨h1, h2⟩ := (hs s hm').2.2 j hj
      rw [hρ k s hs']
      refine ⟨s.f j, by rw [addr s hm']; exact h1, ?_⟩
      rw [seg_cell hj]
      exact Den1.plain h2
    · obtain ⟨s, hs', rfl⟩ := getP k c hk; cases ho
    · obtain ⟨s, hs', rfl⟩ := getP k c hk; cases ho
    · obtain ⟨s, hs', rfl⟩ := getP k c hk; rfl
  have hargs : ∀ (aas ys : List Value), All2 (ArgIs sg) aas ys → All2 (Den (Fil (seenH sg)) ρ) aas ys := by
    intro aas
    induction aas with
    | nil => intro ys h; cases ys with
      | nil => exact trivial
      | cons _ _ => exact h.elim
    | cons a aas ih => intro ys h; cases ys with
      | nil => exact h.elim
      | cons y ys =>
        refine ⟨?_, ih ys h.2⟩
        have h1 := h.1
        cases h1 with
        | plain hp => exact Den.plain hp
        | slice hk =>
          rename_i k l c s0 n a f
          intro r hr
          have e := hr k (filH k _ hk)
          rw [hρ k _ hk] at e
          simp only [den, den2, den1, den0, denA, e]
          rw [addr _ (List.mem_of_getElem? hk) 0]
          rfl
  refine (calls_sx (X := ⟨w, fun _ => False, 0, ρ⟩) (args := ⟨xs⟩) hG hm hf hb H (hargs _ _ hx) hwp).mono ?_
  rintro e w' ⟨ρ', v, st, x, rfl, H', hd, hv⟩
  have hv := hv.out
  subst hv
  refine ⟨?_, H'.evo.below⟩
  rw [← hd.self, den_plain3 hV]
end
end Go.Proofs.YtijiggkhnpmaiaaGreat.Sx
